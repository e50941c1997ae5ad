/- The law RunInsts, on trees. -/
import Derived.Test.YtimfbnojmdnlnaaGreatKSiJ
import Derived.Test.YtimfbnojmdnlnaaGreatKSiK
import Derived.Test.YtimfbnojmdnlnaaGreatKSeS
import Derived.Test.YtimfbnojmdnlnaaGreatKWpF
set_option linter.all false
set_option maxRecDepth 100000
namespace Go.Proofs.YtimfbnojmdnlnaaGreat
namespace AM
namespace Wp
namespace Y
theorem sameinst_ok {s : Int} {b1 b2 : Bool} {x : List Int} (hx : x.length ≤ 1000000000) : Sp theEnv 40 [.agg [.int .i64 s, .slice (nk b1) (x.map encI)], .agg [.int .i64 s, .slice (nk b2) (x.map encI)]] (.bool true) := by
 have ho := order_ok (b1 := b1) (b2 := b2) hx (Nat.le_refl x.length)
 rw [ordI_same] at ho
 refine Sp.fn rfl rfl rfl sx sy fun S => ?_; simp only [a40,c40,go_sem,simprocAttr]
 rw [ho.call]
 simp only [go_sem,simprocAttr]
theorem bothInsts {p : Prg} {ps : List Int} (hl : askErr p ps = 0 → ps.length = p.params.length) {v w : V} (hv : InstsV p ps v) (hw : RInstsV p ps w) :
  (∃ (b c : Bool) (ms : List InP),ms.length ≤ 4096 ∧ (∀ m ∈ ms,m.x.length ≤ 1000) ∧ v = .tup [.slice (nk b) (ms.map encInP), .int .i64 0] ∧ w = .tup [.slice (nk c) ((ms.map InP.toI).map encIns), .int .i64 0]) ∨ ∃ e,v = .tup [.slice .nil [], .int .i64 e] ∧ w = .tup [.slice .nil [], .int .i64 e] := by
 unfold InstsV at hv
 unfold RInstsV at hw
 by_cases he : askErr p ps = 0
 ·have e1 : dryT p ps = totD p ps := by unfold dryT totD; rw [hl he]
  rw [if_pos he] at hv hw
  rw [e1] at hv
  cases hr : (totD p ps).r with
  | pan e =>
   rw [hr] at hv hw
   exact .inr ⟨e,hv,hw⟩
  | ok st rows =>
   rw [hr] at hv hw
   simp only at hv hw
   by_cases h9 : (totD p ps).i.length ≤ 4096
   ·rw [if_pos h9] at hv hw
    obtain ⟨b,ms,hms,hx,rfl⟩ := hv
    refine .inl ⟨b,_,ms,?_,hx,rfl,by rw [hms]; exact hw⟩
    have := congrArg List.length hms
    simp at this; omega
   ·rw [if_neg h9] at hv hw
    exact .inr ⟨3,hv,hw⟩
 ·rw [if_neg he] at hv hw
  exact .inr ⟨_,hv,hw⟩
theorem instslaw_ok {p : Prg} (hp : OkPrg p) (hw : wtL (encPrg p) ≤ 300000000) (b : Bool) (ps : List Int) (hz : b = true → ps = []) (hpl : ps.length ≤ LIM) :
  Sp theEnv 9 [.agg (encPrg p), .slice (nk b) (ps.map encI)] (.bool true) := by
 have hsm := sm_prg hp (by omega)
 obtain ⟨v,hv,hRv⟩ := insts_ok hp hw (b := b) hz hpl
 obtain ⟨w,hw2,hRw⟩ := rinsts_ok hp hw hsm (b := b) hpl
 refine Sp.fn rfl rfl rfl sx sy fun S => ?_; simp only [a9,c9,go_sem,simprocAttr]
 rw [(few12_nil hp b ps hpl).call]
 simp only [go_sem,simprocAttr]
 rw [Run_if]
 simp only [go_sem,simprocAttr]
 split
 ·rw [awake12_c]; simp only [go_sem,simprocAttr]
 ·rcases bothInsts (fun he => (ask_in he).2.1) hRv hRw with ⟨b1,b2,ms,hml,hmx,rfl,rfl⟩ | ⟨e,rfl,rfl⟩
  ·simp only [go_sem,simprocAttr,evc12_call hv sx (fun n => by simp only [go_sem,simprocAttr]),evc12_call hw2 sx (fun n => by simp only [go_sem,simprocAttr]),Run_if]
   refine Run_range ms.length [5,7] [] (fun k _ S' => S' = ⟨[encPrg p],none⟩ :: S) (by omega) sx sx rfl rfl rfl rfl sx rfl ?_ ?_
   ·rintro k F _ hk rfl hi hkept
    simp only [go_sem,simprocAttr] at hkept
    obtain ⟨m,hm⟩ : ∃ m,ms[k]? = some m := ⟨ms[k],List.getElem?_eq_getElem hk⟩
    have hx := hmx m (List.mem_of_getElem? hm)
    have hm2 : (ms.map InP.toI)[k]? = some m.toI := by rw [List.getElem?_map,hm]; rfl
    have hsame := sameinst_ok (s := m.stm) (b1 := m.b) (b2 := false) (x := m.x) (by omega)
    have c1 : cutV [.int .i64 m.stm, .slice (nk m.b) (m.x.map encI)] 0 2 true = some (.agg [.int .i64 m.stm, .slice (nk m.b) (m.x.map encI)]) := by cases m.b <;> rfl
    have c2 : cutV [.int .i64 m.stm, .slice .shut (m.x.map encI)] 0 2 true = some (.agg [.int .i64 m.stm, .slice .shut (m.x.map encI)]) := rfl
    rw [show nk false = SK.shut from rfl] at hsame
    simp only [go_sem,simprocAttr,hkept,hi,iaO_map hm,iaO_map hm2,Wk_enter,encInP,encIns,InP.toI,c1,c2]
    rw [hsame.call]
    simp only [go_sem,simprocAttr]
   ·rintro F _ rfl hkept
    simp only [go_sem,simprocAttr] at hkept
    simp only [go_sem,simprocAttr]
    rw [awake12_c]; simp only [go_sem,simprocAttr]
  ·simp only [go_sem,simprocAttr,evc12_call hv sx (fun n => rfl),evc12_call hw2 sx (fun n => rfl),Run_if]
   refine Run_range 0 [5,7] [] (fun k _ S' => S' = ⟨[encPrg p],none⟩ :: S) (by decide) sx sx rfl rfl rfl rfl sx rfl ?_ ?_
   ·rintro k F _ hk rfl hi hkept
    omega
   ·rintro F _ rfl hkept
    simp only [go_sem,simprocAttr] at hkept
    simp only [go_sem,simprocAttr]
    rw [awake12_c]; simp only [go_sem,simprocAttr]
end Y
end Wp
end AM
end Go.Proofs.YtimfbnojmdnlnaaGreat
