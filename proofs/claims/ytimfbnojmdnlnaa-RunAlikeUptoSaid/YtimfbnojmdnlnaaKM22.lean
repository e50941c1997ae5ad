/- From the evaluator to a call by the row's form; The type of programs, and what is read of it. -/
import Derived.Test.YtimfbnojmdnlnaaKM21
import Derived.Test.YtimfbnojmdnlnaaKLaH
import Derived.Test.YtimfbnojmdnlnaaKM2
import Derived.Test.YtimfbnojmdnlnaaRows
set_option linter.all false
set_option maxRecDepth 100000
section
namespace Go.Proofs.Ytimfbnojmdnlnaa
namespace AM
open Go.RowKit
theorem calls_eval {f k:Nat} {args:List V} {vals:List Value} {W:World} {v:V} (hbase:Base Try.prog (g0 W)) (hr:RelL (g0 W) 1 args vals) (hc:∀ v∈args,isCalm v=true) (hev:callN theEnv k (.fn f) args []=some (.ret v,[])) :
  Calls Try.prog f ⟨vals⟩ W fun e W'=>(∃ g' x,e=.returned x∧Rel g' 0 v x)∧Below W.heap.size W W':=by
 obtain ⟨_,h⟩:=callN_ok theEnv_ok k (.fn f) args [] (.ret v) [] hev (g0 W) W vals (inv_g0 hbase) ⟨fun _=>.inl rfl,fun _ _ _=>rfl⟩ hr hc
 refine (callsIn_wide.1 h).mono fun e W' he=>?_
 obtain ⟨g',x,rfl,hd,_,_,hrx,_⟩:=he
 exact ⟨⟨g',x,rfl,hrx⟩,below_of_frm hd.frm⟩
theorem calls_true {f k:Nat} {args:List V} {vals:List Value} {W:World} (hbase:Base Try.prog (g0 W)) (hr:RelL (g0 W) 1 args vals) (hc:∀ v∈args,isCalm v=true) (hev:callN theEnv k (.fn f) args []=some (.ret (.bool true),[])) :
  Calls Try.prog f ⟨vals⟩ W fun e W'=>e=.returned (.bool true)∧Below W.heap.size W W' :=
 (calls_eval hbase hr hc hev).mono fun e W' ⟨⟨g',x,he,hx⟩,hb⟩=>by
  simp only [Rel] at hx
  subst hx
  exact ⟨he,hb⟩
theorem base_row:((begin Try.prog (fun _ _=>0) default).world.heap[0]?.bind Obj.row?).map (fun x=>x.2)=some 3:=by kernel_rfl
theorem base_zero:((begin Try.prog (fun _ _=>0) default).world.heap[0]?.bind Obj.row?).map (fun x=>x.1.size)=some 1:=by kernel_rfl
theorem u3:Try.prog.underlying 3=some (.int .i64):=by kernel_rfl
theorem b3:Try.prog.buildable 3=true:=by kernel_rfl
theorem glob:0 < Try.prog.globals.size:=by
 have h:decide (0 < Try.prog.globals.size)=true:=by kernel_rfl
 exact of_decide_eq_true h
theorem cells3:Try.prog.cellTypes Try.prog.depth 3=some [3]:=by kernel_rfl
theorem base_shaped {W:World} (h:W.ShapedOpen Try.prog):Base Try.prog (g0 W):=by
 intro k hk
 rw [lenIdx] at hk
 injection hk with hk; subst hk
 obtain ⟨h1,_⟩:=h
 obtain ⟨⟨z,t⟩,hz,ht⟩:=Option.map_eq_some_iff.1 base_row
 obtain ⟨⟨z',t'⟩,hz',hs⟩:=Option.map_eq_some_iff.1 base_zero
 rw [hz] at hz'
 injection hz' with hz'
 cases hz'
 simp only at ht hs
 subst ht
 obtain ⟨cs,h2,h3,h4⟩:=h1 0 z 3 glob hz
 have h5:=h4 b3
 obtain ⟨ts,hts,_,hall⟩:=h5
 rw [cells3] at hts
 injection hts with hts; subst hts
 have hsz:cs.size=1:=h3.trans hs
 have h0:cs[0]?=some cs[0]:=Array.getElem?_eq_getElem (by omega)
 obtain ⟨u,hu,hok⟩:=hall 0 _ h0
 simp at hu
 subst hu
 unfold Cell.ok at hok
 rw [u3] at hok
 cases hv:cs[0] with
 | int k' n =>
  rw [hv] at hok
  simp only at hok
  obtain ⟨rfl,_⟩:=hok
  exact ⟨n,by show W.cell? ⟨0,0,none⟩=_; simp [World.cell?,h2,h0,hv]⟩
 | _=>rw [hv] at hok; simp at hok
end AM
end Go.Proofs.Ytimfbnojmdnlnaa
end
section
namespace Go.Proofs.Ytimfbnojmdnlnaa
namespace AM
open Go.RowKit Go.ChangeShapes Go.WideShapes Go.ChangeAt
def theTys:List Nat:=[26,22,9,23,83,42,46,35,3,24,51,38,36,130,156,41,39,131,181,44,49,47]
theorem tys_closed:closedT Try.prog theTys=true:=by kernel_rfl
theorem prog_ty:∃ fs,Try.prog.underlying 26=some (.struct fs):=by
 have h:(Try.prog.underlying 26).map (fun d=>match d with | .struct _=>true | _=>false)=some true:=by kernel_rfl
 cases hu:Try.prog.underlying 26 with
 | none=>rw [hu] at h; cases h
 | some d=>rw [hu] at h; cases d<;>simp at h; exact ⟨_,rfl⟩
theorem prog_arg {H:Type} {enc:TypeId×Value→H} {W:World} {base:Nat} {v:Value} {d:DataW H} {ps:List MemPlace} (hv:Value.okWide Try.prog W .any base 26 v) (h:DataW.Trod enc Try.prog W 0 (fun _=>true) true 26 v d ps) :
  ∃ n vs,typed Try.prog n 26 vs∧Rel (g0 W) 1 (.agg vs) v∧wtL vs≤Rows.uptoBulk d:=by
 obtain ⟨fs,hu⟩:=prog_ty
 unfold Value.okWide at hv
 rw [hu] at hv
 obtain ⟨cs,rfl,_,_⟩:=hv
 obtain ⟨n,hn⟩:=h
 obtain ⟨vs,h1,h2,h3,h4⟩:=trod_open tys_closed n 26 _ d ps (by decide) hn
 refine ⟨n,vs,h3,?_,h4⟩
 simp only [Rel]
 exact ⟨cs.toList,by simp,h2,relL_mono (Le.refl 0 _) (Nat.zero_le _) _ _ (by simpa [Value.cells] using h1)⟩
theorem own_ok:ownKnob Try.prog.godebug=none:=by kernel_rfl
theorem laid_ok:laidOutB Try.prog=true:=by kernel_rfl
end AM
end Go.Proofs.Ytimfbnojmdnlnaa
end
