/- run.Insts. -/
import Derived.Test.YtimfbnojmdnlnaaGreatKM50
import Derived.Test.YtimfbnojmdnlnaaGreatKM40
set_option linter.all false
set_option maxRecDepth 100000
namespace Go.Proofs.YtimfbnojmdnlnaaGreat
namespace AM
namespace Wp
namespace Y
theorem errT_bind {t : Tr} {k : Int → List (List Int) → Tr} (h : ErrOk t.r) (hk : ∀ st rows,ErrOk (k st rows).r) : ErrOk (t.bind k).r := by
 unfold Tr.bind
 split
 ·rename_i e he
  rw [he] at h; exact h
 ·exact hk _ _
theorem errT_asg (sh : List Shape) (np : Nat) (dry : Bool) (s : Stm) (x : List Int) (num st : Int) (rows : List (List Int)) : ErrOk (assignT sh np dry s x num st rows).r := by
 unfold assignT
 refine errT_bind (err_step st rows) fun st rows => ?_
 split
 ·trivial
 ·split
  ·exact .inr rfl
  ·split
   ·exact .inr rfl
   ·trivial
theorem errT_loop {f : Int → Int → List (List Int) → Tr} (hf : ∀ v st rows,ErrOk (f v st rows).r) (step high : Int) : ∀ (n : Nat) (v st : Int) (rows : List (List Int)),ErrOk (loopT f step high n v st rows).r
 | 0,_,_,_ => trivial
 | n + 1,v,st,rows => by
  rw [loopT]
  split
  ·exact errT_bind (err_step _ _) fun st rows => errT_bind (hf _ _ _) fun st rows => errT_loop hf step high n _ _ _
  ·trivial
theorem errT_list {sh : List Shape} {np : Nat} {dry : Bool} : ∀ (l : List Stm),(∀ s ∈ l, ∀ x f st rows,ErrOk (stmT sh np dry s x f st rows).r) → ∀ x f st rows,ErrOk (bodyT sh np dry l x f st rows).r
 | [],_,_,_,_,_ => by rw [bodyT]; trivial
 | s :: l,h,x,f,st,rows => by
  rw [bodyT]
  exact errT_bind (h s (by simp) x f st rows) fun st rows => errT_list l (fun t ht => h t (List.mem_cons_of_mem _ ht)) x _ st rows
theorem errT_stm {sh : List Shape} {np : Nat} {dry : Bool} : ∀ (s : Stm) (x : List Int) (f st : Int) (rows : List (List Int)),ErrOk (stmT sh np dry s x f st rows).r := by
 refine Stm.ind fun s ihb ihe x f st rows => ?_
 have hb := errT_list s.body ihb
 have he := errT_list s.els ihe
 rw [stmT_eq]
 split
 ·split
  ·exact .inr rfl
  ·split
   ·exact .inr rfl
   ·exact errT_loop (fun v st rows => hb _ _ st rows) _ _ _ _ st rows
 ·split
  ·split
   ·exact hb x _ st rows
   ·exact he x _ st rows
  ·exact errT_asg sh np dry s x f st rows
theorem errT_body (sh : List Shape) (np : Nat) (dry : Bool) (l : List Stm) (x : List Int) (f st : Int) (rows : List (List Int)) : ErrOk (bodyT sh np dry l x f st rows).r := errT_list l (fun s _ => errT_stm s) x f st rows
def dryT (p : Prg) (ps : List Int) : Tr := bodyT (shapesOf ps p.arrays) ps.length true p.body ps 0 0 []
def InstsV (p : Prg) (ps : List Int) (v : V) : Prop :=
 if askErr p ps = 0 then
  (match (dryT p ps).r with
  | .ok _ _ => if (dryT p ps).i.length ≤ 4096 then ∃ (b : Bool) (ms : List InP),ms.map InP.toI = (dryT p ps).i ∧ (∀ m ∈ ms,m.x.length ≤ 1000) ∧ v = .tup [.slice (nk b) (ms.map encInP), .int .i64 0] else v = .tup [.slice .nil [], .int .i64 3]
  | .pan e => v = .tup [.slice .nil [], .int .i64 e])
 else v = .tup [.slice .nil [], .int .i64 (askErr p ps)]
theorem still_InP (ms : List InP) : ∀ c ∈ (ms.map encInP).flatten,still c := by
 intro c hc
 obtain ⟨l,hl,h⟩ := List.mem_flatten.1 hc
 obtain ⟨m,_,rfl⟩ := List.mem_map.1 hl
 simp only [encInP,List.mem_cons,List.not_mem_nil,or_false] at h
 rcases h with rfl | rfl
 ·exact ⟨rfl,rfl,rfl⟩
 ·refine ⟨rfl,?_,by cases m.b <;> rfl⟩
  cases hb : m.b <;> rfl
theorem prg_bodyQ {p : Prg} (hp : OkPrg p) (hw : wtL (encPrg p) ≤ 300000000) (h : chkPrg p = true) {ps : List Int} (hl : ps.length = p.params.length) {c : Mc} (hcs : c.sh = shapesOf ps p.arrays) (hnp : c.np = ps.length)
  (hasg : ∀ (s : Stm) (nv : Nat),OkStm s → OkSt c.sh nv s → nv ≤ 1000 → c.np ≤ nv → s.kind ≠ 1 → s.kind ≠ 2 → AsgQ c nv s) : BodyQ c ps.length p.body := by
 have hh := chk_head h
 have hok := prg_okst h hl
 have hc := h
 simp only [chkPrg,Bool.and_eq_true] at hc
 obtain ⟨_,h1⟩ := chkBody_dl hc.2
 have hn := nAsg_wt p.body
 simp only [encPrg,encStms_map,wtL,wt] at hw
 refine bodyq hasg (by have := hh.1; omega) (by omega) hp.bl (fun s hs => ⟨hp.bs s hs,?_⟩) (by omega) fun s hs => ⟨by rw [hcs]; exact hok s hs,?_⟩
 ·obtain ⟨st',h'⟩ := chkList_mem h1 s hs
  exact chk_okas s _ _ h'
 ·obtain ⟨st',h'⟩ := chkList_mem h1 s hs
  have := chk_okts hh.1 s p.params st' (by have := hh.1; omega) h'
  rwa [← hl] at this
theorem insts_ok {p : Prg} (hp : OkPrg p) (hw : wtL (encPrg p) ≤ 300000000) {b : Bool} {ps : List Int} (hz : b = true → ps = []) (hpl : ps.length ≤ LIM) :
  ∃ v,EvC theEnv 38 [.agg (encPrg p), .slice (nk b) (ps.map encI)] v ∧ InstsV p ps v := by
 have fin : CallQ theEnv (.fn 38) [.agg (encPrg p), .slice (nk b) (ps.map encI)] [] (fun o S' => ∃ v,o = .ret v ∧ S' = [] ∧ InstsV p ps v) → ∃ v,EvC theEnv 38 [.agg (encPrg p), .slice (nk b) (ps.map encI)] v ∧ InstsV p ps v := by
  rintro ⟨o,S',h1,v,rfl,rfl,h2⟩
  exact ⟨v,h1,h2⟩
 refine fin ?_
 refine CallQ.fnZ rfl rfl rfl rfl ?_
 simp only [a38,c38,go_sem,simprocAttr,(asked_ok hp hpl).call,List.length_nil]
 rw [Run_if]
 simp only [go_sem,simprocAttr]
 by_cases he : askErr p ps = 0
 ·obtain ⟨hc,hl,hin,hsh,hrng⟩ := ask_in he
  have hl2 : ps.length ≤ 1000 := by have := (chk_head hc).1; omega
  have hxr : InRng ps := by
   unfold InRng
   rw [List.any_eq_false]
   intro y hy
   have := hrng y hy
   simp [farI]; omega
  have hJ : JI 1 2 [] [] [⟨[encPrg p,[.slice .nil []],[.bool false]],none⟩] := ⟨_,_,[],rfl,rfl,rfl,rfl,by decide, .inl ⟨rfl,rfl⟩,by simp⟩
  have hex := exec_run (B0 := [⟨[encPrg p,[.slice .nil []],[.bool false]],none⟩]) (rows := []) hp (bs := (shapesOf ps p.arrays).isEmpty) hz hl2 (sh := shapesOf ps p.arrays) (mv := .slice .nil []) rfl ⟨rfl,rfl,rfl,rfl⟩ (dry := true) (g := 72) (oi := 1) (fi := 2) (J := JI 1 2) hJ (fun h => by cases h) sx (fun c h1 h2 h3 h4 h5 h6 h7 => prg_bodyQ hp hw hc hl h2 h4 fun s nv _ _ h8 h9 _ _ => asg_dry h5 h7 h6 h9 h8) hxr
  have hdr : bodyT (shapesOf ps p.arrays) ps.length true p.body ps 0 0 [] = dryT p ps := rfl
  rw [hdr] at hex
  have herr := errT_body (shapesOf ps p.arrays) ps.length true p.body ps 0 0 []
  rw [hdr] at herr
  simp only [he,shapesV_0,go_sem,simprocAttr,List.length_nil]
  refine CallPQ hex (by simp only [go_sem,simprocAttr,Nat.not_lt_zero,decide_false,Bool.false_and,Bool.and_false]) sx ?_
  rintro o S' hP
  unfold ExecP at hP
  cases hbv : (dryT p ps).r with
  | pan e =>
   rw [hbv] at hP herr
   obtain ⟨rfl,hl1,hc1⟩ := hP
   obtain ⟨B',rfl⟩ := one_level hl1 hc1
   have he0 : e ≠ 0 := by rcases herr with rfl | rfl <;> decide
   simp only [go_sem,simprocAttr,List.length_nil]
   rw [Run_if]
   simp only [go_sem,simprocAttr,he0,List.length_nil]
   rw [FinZR_low sx]
   refine ⟨_,rfl,rfl,?_⟩
   unfold InstsV
   rw [if_pos he,hbv]
  | ok st rows' =>
   rw [hbv] at hP
   obtain ⟨rfl,hl1,hc1,hj,_⟩ := hP
   obtain ⟨B,ov,ms,rfl,hms,hoi,hfi,hne,ho,hmx⟩ := hj
   have hfi2 : onBox (bget B 2) 0 1 false = some (.bool (decide (4096 < (dryT p ps).i.length))) := by rw [hfi]; rfl
   simp only [go_sem,simprocAttr,List.length_nil,hfi2]
   rw [Run_if]
   simp only [go_sem,simprocAttr]
   by_cases h9 : (dryT p ps).i.length ≤ 4096
   ·have h9' : ¬ 4096 < (dryT p ps).i.length := by omega
    rw [List.take_of_length_le h9] at hms
    have hcl : cellO (bget B 1) 0 = some ov := by rw [hoi]; rfl
    have hio := ho.cp.2.2.1
    have hld : onBox (bget B 1) 0 1 false = some ov := by
     rw [hoi]
     simp only [go_sem,simprocAttr,ho.cp.1]
    simp only [h9',go_sem,simprocAttr,List.length_nil,if_false,decide_false,hcl,hio,hld,ho.cp.1]
    refine ⟨ho.cp.2.1,?_⟩
    have fin2 : ∀ b : Bool,InstsV p ps (.tup [.slice (nk b) (ms.map encInP), .int .i64 0]) := fun b => by
     unfold InstsV
     rw [if_pos he,hbv]
     simp only [h9,if_true]
     exact ⟨b,ms,hms,hmx,rfl⟩
    rcases ho with ⟨h0,rfl⟩ | ⟨bi,_,_,rfl,hb⟩
    ·rw [FinZR_low sx]
     refine ⟨_,rfl,rfl,?_⟩
     have := fin2 true
     rwa [h0] at this
    ·have hz1 := frz_rows (S := [⟨B,none⟩]) (rows := ms.map encInP) (n := 2) (l := 0) (i := bi) (e := 91) (lo := 0) (k := 1) (Nat.le_refl _) (by simp only [go_sem,simprocAttr]; exact hb) (by decide) (fun r hr => by
      obtain ⟨m,_,rfl⟩ := List.mem_map.1 hr; rfl) (still_InP ms)
     have hz2 : AM.frz [⟨B,none⟩] 0 4 (.tup [.bsl 0 bi 0 (ms.map encInP).length 2 91, .int .i64 0]) = some (.tup [.slice .shut (ms.map encInP), .int .i64 0]) := by
      simp only [AM.frz,List.mapM_cons,List.mapM_nil] at hz1 ⊢
      rw [hz1]
      rfl
     rw [FinZR_frz (by simp [low,lowL]) hz2 sx]
     exact ⟨_,rfl,rfl,fin2 false⟩
   ·have h9' : 4096 < (dryT p ps).i.length := by omega
    simp only [h9',go_sem,simprocAttr,List.length_nil,if_true,decide_true]
    rw [FinZR_low sx]
    refine ⟨_,rfl,rfl,?_⟩
    unfold InstsV
    rw [if_pos he,hbv]
    simp only [h9,if_false]
 ·rw [shapesV_n he]
  simp only [he,go_sem,simprocAttr,List.length_nil,if_false]
  rw [FinZR_low sx]
  refine ⟨_,rfl,rfl,?_⟩
  unfold InstsV
  rw [if_neg he]
end Y
end Wp
end AM
end Go.Proofs.YtimfbnojmdnlnaaGreat
