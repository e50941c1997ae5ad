/- The law RunRuns, on trees. -/
import Derived.Test.YtimfbnojmdnlnaaGreatKShQ
import Derived.Test.YtimfbnojmdnlnaaGreatKM51
import Derived.Test.YtimfbnojmdnlnaaGreatKM40
set_option linter.all false
set_option maxRecDepth 100000
namespace Go.Proofs.YtimfbnojmdnlnaaGreat
namespace AM
namespace Wp
theorem bothRun {p : Prg} (hp : OkPrg p) {ps : List Int} {mem : List Mem} {v w : V} (hv : RunV p ps mem v) (hw : RRunV p ps mem w) :
  (∃ (b c : Bool) (a d : List Mem) (st : Int),a.map (·.row) = d.map (·.row) ∧ v = .tup [.slice (nk b) (a.map encMem), .int .i64 st, .int .i64 0] ∧ w = .tup [.slice (nk c) (d.map encMem), .int .i64 st, .int .i64 0] ∧ bodyV (shapesOf ps p.arrays) p.body ps 0 (mem.map (·.row)) = .ok st (a.map (·.row))) ∨ ∃ e,v = .tup [.slice .nil [], .int .i64 0, .int .i64 e] ∧ w = .tup [.slice .nil [], .int .i64 0, .int .i64 e] := by
 unfold RunV at hv
 unfold RRunV at hw
 split at hv
 ·rename_i h1
  rw [if_pos h1] at hw
  obtain ⟨hc,hl,_,_,hr⟩ := ask_in h1
  have hbod : (totR p ps (mem.map (·.row))).r = bodyV (shapesOf ps p.arrays) p.body ps 0 (mem.map (·.row)) := by
   unfold totR
   rw [← hl]
   exact bodyT_r hp hc hl hr 0 0 _
  rw [hbod] at hw
  split at hv
  ·rename_i h2
   rw [if_pos h2] at hw
   split at hv
   ·rename_i st rows hb
    rw [hb] at hw
    obtain ⟨b,a,ha,rfl⟩ := hv
    obtain ⟨c,d,hd,rfl⟩ := hw
    exact .inl ⟨b,c,a,d,st,by rw [ha,hd],rfl,rfl,by rw [hb,ha]⟩
   ·rename_i e hb
    rw [hb] at hw
    subst hv; subst hw
    exact .inr ⟨_,rfl,rfl⟩
  ·rename_i h2
   rw [if_neg h2] at hw
   subst hv; subst hw
   exact .inr ⟨_,rfl,rfl⟩
 ·rename_i h1
  rw [if_neg h1] at hw
  subst hv; subst hw
  exact .inr ⟨_,rfl,rfl⟩
theorem runslaw_ok {p : Prg} (hp : OkPrg p) (hw : wtL (encPrg p) ≤ 300000000) (b bm : Bool) (ps : List Int) (mem : List Mem) (hz : b = true → ps = []) (hpl : ps.length ≤ LIM) (hl : ps.length + mem.length + memLen mem ≤ 1000000000000) (hmz : ∀ m ∈ mem,m.n = true → m.row = []) :
  Sp theEnv 5 [.agg (encPrg p), .slice (nk b) (ps.map encI), .slice (nk bm) (mem.map encMem)] (.bool true) := by
 have hsm := sm_prg hp (by omega)
 refine Sp.fn rfl rfl rfl sx sy fun S => ?_; simp only [a5,c5,go_sem,simprocAttr]
 rw [(few12_ok hp b bm ps mem hl).call]
 simp only [go_sem,simprocAttr]
 rw [Run_if]
 cases hfw : (few p 1000 && decide (ps.length + mem.length + memLen mem ≤ 10000)) with
 | false =>
  simp only [hfw,go_sem,simprocAttr]
  rw [awake12_c]; simp only [go_sem,simprocAttr]
 | true =>
  simp only [hfw,go_sem,simprocAttr]
  have hmd : OkMem mem := ⟨by simp at hfw; omega,fun m hm => ⟨by have := memLen_mem hm; simp at hfw; omega,hmz m hm⟩⟩
  obtain ⟨v,hv,hRv⟩ := run_ok hp (b := b) (bm := bm) (mem := mem) hz hpl hmd (fun st rows => err_body _ _ _ _ _)
  obtain ⟨w,hw2,hRw⟩ := rrun_ok hp hw hsm (b := b) (bm := bm) (mem := mem) hpl hmd
  rcases bothRun hp hRv hRw with ⟨b1,b2,m1,m2,st,hrow,rfl,rfl,hbod⟩ | ⟨e,rfl,rfl⟩
  ·simp only [go_sem,simprocAttr,evc12_call hv sx (fun n => by simp only [go_sem,simprocAttr]),evc12_call hw2 sx (fun n => by simp only [go_sem,simprocAttr])]
   have hrl : ∀ (a : List Mem),a.map (·.row) = m1.map (·.row) → a.length = mem.length ∧ ∀ x ∈ a,x.row.length ≤ memLen mem := by
    intro a ha
    have h1 := len_body hbod
    rw [← ha,List.map_map,List.map_map] at h1
    refine ⟨by simpa using congrArg List.length h1,fun x hx => ?_⟩
    have h2 : x.row.length ∈ a.map (List.length ∘ (·.row)) := List.mem_map_of_mem (f := List.length ∘ (·.row)) hx
    rw [h1] at h2
    obtain ⟨y,hy,hxy⟩ := List.mem_map.1 h2
    have := memLen_mem hy
    simp only [Function.comp] at hxy
    omega
   obtain ⟨hl1,hr1⟩ := hrl m1 rfl
   simp at hfw
   have hsame := samemem_ok (b1 := b1) (b2 := b2) (a := m1) (b := m2) (by omega) (fun x hx => by have := hr1 x hx; omega)
   rw [memEq_rows hrow] at hsame
   simp only [hsame.call,hsame.callG,go_sem,simprocAttr,awake12_g,awake12_c]
  ·simp only [go_sem,simprocAttr,evc12_call hv sx (fun n => rfl),evc12_call hw2 sx (fun n => rfl)]
   have hsame := samemem_ok (b1 := true) (b2 := true) (a := []) (b := []) (by simp) (by simp)
   simp only [List.map_nil] at hsame
   simp only [nk,if_true,show memEq [] [] = true from rfl] at hsame
   simp only [hsame.call,hsame.callG,go_sem,simprocAttr,awake12_g,awake12_c]
end Wp
end AM
end Go.Proofs.YtimfbnojmdnlnaaGreat
