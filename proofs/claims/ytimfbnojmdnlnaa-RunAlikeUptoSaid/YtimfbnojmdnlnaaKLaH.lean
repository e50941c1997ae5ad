/- The environment in which the laws of running run, that it is sound, and the example of the chapter. Built over tables of its own (T4R, folder vR). -/
import Derived.Test.YtimfbnojmdnlnaaKLaG
import Derived.Test.YtimfbnojmdnlnaaKM12
import Derived.Test.YtimfbnojmdnlnaaKLaC
set_option linter.all false
namespace Go.Proofs.Ytimfbnojmdnlnaa
namespace AM
def theMeth (t:Nat) (n:String):Option Nat :=
 if n = "headland/lang.check" then (if t = 174 then some 184 else if t = 175 then some 193 else if t = 176 then some 195 else none) else none
def theEnv:Env where
 fn f:=(fnTab.find? (fun q=>q.1 == f)).map (·.2)
 meth:=theMeth
 ext f:=if f=9 then some (guardH theMeth 1 pre9 post9 2 4 86) else if f=57 then some (guardH2 theMeth 6 [pre570,pre571,pre572] post57 12 13 29 170) else if f=128 then some containsH else none
def takeSeq:Nat→Code→List Code
 | k+1, .seq a b=>a::takeSeq k b
 | _,_=>[]
theorem m174 (v : Value) (w : World) : (method (Try.prog.types.size + Made.depth) 174 v "headland/lang.check").run Try.prog w = .ok (184,v) w := by kernel_rfl
theorem m175 (v : Value) (w : World) : (method (Try.prog.types.size + Made.depth) 175 v "headland/lang.check").run Try.prog w = .ok (193,v) w := by kernel_rfl
theorem m176 (v : Value) (w : World) : (method (Try.prog.types.size + Made.depth) 176 v "headland/lang.check").run Try.prog w = .ok (195,v) w := by kernel_rfl
set_option maxRecDepth 100000 in
theorem theMeth_ok:MethOk Try.prog theMeth:=by
 intro t n f h v w
 unfold theMeth at h
 split at h<;>try (cases h; done)
 rename_i hn
 subst hn
 split at h
 ·rename_i ht; subst ht; simp only [Option.some.injEq] at h; rw [← h]; exact m174 v w
 ·split at h
  ·rename_i ht; subst ht; simp only [Option.some.injEq] at h; rw [← h]; exact m175 v w
  ·split at h
   ·rename_i ht; subst ht; simp only [Option.some.injEq] at h; rw [← h]; exact m176 v w
   ·cases h
theorem mix_ok:Try.prog.follows .mixedOrders=true:=by kernel_rfl
theorem check_ok {cE:CE} (hE:CallOk Try.prog cE) {args:List V} {T:St} {out:Out} {T':St} (hv:guardH theMeth 1 pre9 post9 2 4 86 cE args T=some (out,T')) {g:Gh} {w:World} {vals:List Value} (I:Inv Try.prog T g w) (hc:Clean T.length g) (hr:RelL g (T.length+1) args vals) (hcalm:∀ v∈args,isCalm v=true) :
  Enters Try.prog 9∧CallsIn Fence.wide 0 Try.prog 9 ⟨vals⟩ w (OutPost Try.prog T g w T' out) :=
 guard_ok (rs1 := []) (rs2 := []) theMeth_ok hE mix_ok Try.func9 (by show ("headland/lang.Check" : String) ≠ _; decide) rfl (by kernel_rfl) (by kernel_rfl) rfl ⟨rfl,rfl,rfl⟩ ⟨rfl,rfl,rfl⟩ (by decide) (by decide) (by decide) rfl (rt := 28) (by kernel_rfl) (by kernel_rfl) guard29 hv I hc hr hcalm
theorem exec_ok {cE:CE} (hE:CallOk Try.prog cE) {args:List V} {T:St} {out:Out} {T':St} (hv:guardH2 theMeth 6 [pre570,pre571,pre572] post57 12 13 29 170 cE args T=some (out,T')) {g:Gh} {w:World} {vals:List Value} (I:Inv Try.prog T g w) (hc:Clean T.length g) (hr:RelL g (T.length+1) args vals) (hcalm:∀ v∈args,isCalm v=true) :
  Enters Try.prog 57∧CallsIn Fence.wide 0 Try.prog 57 ⟨vals⟩ w (OutPost Try.prog T g w T' out) :=
 guard2_ok (xs := takeSeq 3 (Try.f57.body.getD .skip)) (rs1 := [2000020]) (rs2 := [2000020]) theMeth_ok hE mix_ok Try.func57 (by show ("headland/run.executed" : String) ≠ _; decide) rfl (by kernel_rfl) (by kernel_rfl) rfl ⟨rfl,rfl,rfl⟩ ⟨rfl,rfl,rfl⟩ (by decide) (by decide) (by decide) (by decide) rfl (rt := 3) (rt2 := 28) (by kernel_rfl) (by kernel_rfl) guardE hv I hc hr hcalm
theorem theEnv_ok:EnvOk Try.prog theEnv:={
 mix:=mix_ok
 fn f af h:=⟨theEsc,fn_tab f af h⟩
 meth:=theMeth_ok
 ext f h hf cE hE args T out T' hv g w vals I hc hr hcalm:=by
  simp only [theEnv] at hf
  split at hf
  ·rename_i h9
   subst h9
   injection hf with hf; subst hf
   exact check_ok hE hv I hc hr hcalm
  ·split at hf
   ·rename_i h62
    subst h62
    injection hf with hf; subst hf
    exact exec_ok hE hv I hc hr hcalm
   ·split at hf
    ·rename_i h128
     subst h128
     injection hf with hf; subst hf
     exact contains_ok hv I hr
    ·cases hf }
end AM
end Go.Proofs.Ytimfbnojmdnlnaa
