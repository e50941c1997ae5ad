/- The reference's Insts. -/
import Derived.Test.YtimfbnojmdnlnaaGreatKM52
import Derived.Test.YtimfbnojmdnlnaaGreatKM40
set_option linter.all false
set_option maxRecDepth 100000
namespace Go.Proofs.YtimfbnojmdnlnaaGreat
namespace AM
namespace Wp
namespace Y
def errOf : Rs → Int
 | .ok _ _ => 0
 | .pan e => e
def cOfD (p : Prg) (ps : List Int) : Rc := ⟨p,shapesOf ps p.arrays,p.arrays.isEmpty, .slice .nil [],true,1⟩
def totD (p : Prg) (ps : List Int) : Tr := bodyT (shapesOf ps p.arrays) p.params.length true p.body ps 0 0 []
def DoneD (p : Prg) (ps : List Int) (F : Fr) (B : List (List V)) : Prop :=
 if askErr p ps = 0 then F 8 = .ptr 0 1 0 ∧ F 9 = .int .i64 (errOf (totD p ps).r) ∧ EndT (cOfD p ps) (totD p ps) [] [] B
 else F 8 = .nilp ∧ F 9 = .int .i64 (askErr p ps)
theorem rows_encR (ps : List Int) (ar : List Arr) : (rowsOf ps ar).map encRow = (shapesOf ps ar).map fun s => encRow s.sizes := by
 simp [rowsOf,shapesOf,shapeOf,List.map_map,Function.comp_def]
theorem rdoneD_ev {p : Prg} (hp : OkPrg p) (hw : wtL (encPrg p) ≤ 300000000) (hsm : ∀ s ∈ p.body,SmS s) {b : Bool} {ps : List Int} (hpl : ps.length ≤ LIM) :
  EvQ theEnv c64 (args0 [.agg (encPrg p), .slice (nk b) (ps.map encI), .slice .nil [], .bool true]) [⟨[],none⟩] (fun e F T => e = .ret ∧ ∃ B,T = [⟨B,none⟩] ∧ DoneD p ps F B) := by
 refine EvQ_run ?_
 have hask := rasked_ok hp hsm (b := b) hpl
 rw [ask_same] at hask
 simp only [c64,go_sem,simprocAttr,hask.call,List.length_nil,Nat.zero_add]
 rw [Run_if]
 simp only [go_sem,simprocAttr,DoneD]
 by_cases he : askErr p ps = 0
 ·obtain ⟨hc,hl,hin,hsh,hrng⟩ := ask_in he
  have e0 : encPrg p = [.slice (nk p.pn) (p.params.map encS), .slice (nk p.an) (p.arrays.map encArr), .slice (nk p.bn) (p.body.map encStm)] := by simp only [encPrg,encStms_map]
  have e8 : (rowsOf ps p.arrays).isEmpty = p.arrays.isEmpty := by simp [rowsOf]
  simp only [he,hin,rowsV,intsV,go_sem,simprocAttr,List.length_nil,e0,setAt,List.take_succ_cons,List.take_zero,List.drop_succ_cons,List.drop_zero,List.cons_append,List.nil_append,List.length_cons]
  simp only [go_sem,simprocAttr,List.length_nil,e8,rows_encR]
  have hb1 : ∀ {b : Bool} {l : List (List V)},bare (.slice (nk b) l) = true := fun {b l} => by cases b <;> rfl
  have hbar : barest [encPrg p,rcells (cOfD p ps) 0 0 [] []] = true := by
   rw [e0]
   simp only [barest,bareL,hb1,bareL_rcells (c := cOfD p ps) rfl,Bool.and_self,Bool.true_or]
  have hRI : RI (cOfD p ps) 0 [] 0 [] [] [encPrg p,rcells (cOfD p ps) 0 0 [] []] := ⟨rfl,(fun h => by cases h),rfl,hbar⟩
  have hrun := prg_bodyR (c := cOfD p ps) hp hw hc hl rfl rfl p.bn b ps 0 0 [] [] [] _ [] rfl hRI ⟨by decide,by decide,by simp,by simp⟩
  rw [rb_nil,e0] at hrun
  refine CallPQ hrun sx sx ?_
  rintro o S' ⟨B',rfl,rfl,hE⟩
  rw [rb_nil]
  have hfin : ∃ e,errOf (totD p ps).r = e ∧ ∃ st,bget B' 1 = some (rcells (cOfD p ps) st e (totD p ps).i (totD p ps).l) := by
   have hE' : EndT (cOfD p ps) (totD p ps) [] [] B' := hE
   unfold EndT at hE'
   cases hr : (totD p ps).r with
   | ok st rows => rw [hr] at hE'; exact ⟨0,rfl,st,hE'.m⟩
   | pan e =>
    rw [hr] at hE'
    obtain ⟨st,rows,_,hR⟩ := hE'
    exact ⟨e,rfl,st,hR.m⟩
  obtain ⟨e,he2,st,hm2⟩ := hfin
  rw [he2]
  simp only [go_sem,simprocAttr,hm2,rcells,rcw]
  exact ⟨B',rfl,hE⟩
 ·simp only [he,go_sem,simprocAttr,if_false]
theorem rdoneD_is {p : Prg} (hp : OkPrg p) (hw : wtL (encPrg p) ≤ 300000000) (hsm : ∀ s ∈ p.body,SmS s) {b : Bool} {ps : List Int} (hpl : ps.length ≤ LIM) :
  (askErr p ps ≠ 0 ∧ EvC theEnv 64 [.agg (encPrg p), .slice (nk b) (ps.map encI), .slice .nil [], .bool true] (.tup [.nilp, .int .i64 (askErr p ps)])) ∨
  (askErr p ps = 0 ∧ ∃ (B : List (List V)),EndT (cOfD p ps) (totD p ps) [] [] B ∧
   CallIs theEnv (.fn 64) [.agg (encPrg p), .slice (nk b) (ps.map encI), .slice .nil [], .bool true] [] (.esc (.tup [.ptr 0 1 0, .int .i64 (errOf (totD p ps).r)]) B) []) := by
 obtain ⟨⟨e,F,T⟩,⟨K,h1⟩,h2,B,h3,h4⟩ := rdoneD_ev hp hw hsm (b := b) hpl
 simp only at h1 h2 h3 h4
 subst h2 h3
 have hx : theEnv.ext 64 = none := rfl
 have hf : theEnv.fn 64 = some a64 := rfl
 have main : ∀ o,leave a64 (some (.ret,F,[⟨B,none⟩])) = some (o,[]) → CallIs theEnv (.fn 64) [.agg (encPrg p), .slice (nk b) (ps.map encI), .slice .nil [], .bool true] [] o [] := by
  intro o ho
  refine ⟨K + 1,fun j hj => ?_⟩
  obtain ⟨j,rfl⟩ : ∃ m,j = m + 1 := ⟨j - 1,by omega⟩
  have h := h1 j j (by omega) (by omega)
  simp only [callN,callBody,hx,hf,List.length_cons,List.length_nil]
  have hnp : 0 + 1 + 1 + 1 + 1 = a64.np := rfl
  rw [if_pos hnp]
  have hb : a64.body = c64 := rfl
  rw [hb,h,ho]
 have hes : a64.esc = true := rfl
 unfold DoneD at h4
 by_cases he : askErr p ps = 0
 ·rw [if_pos he] at h4
  obtain ⟨f8,f9,hE⟩ := h4
  refine .inr ⟨he,B,hE,main _ ?_⟩
  have hr : results F [⟨B,none⟩] a64.res = some (.tup [.ptr 0 1 0, .int .i64 (errOf (totD p ps).r)]) := by
   show results F [⟨B,none⟩] [.t 8, .t 9] = _
   simp only [go_sem,simprocAttr,f8,f9]
  simp [leave,hr,low,lowL,hes,strip]
 ·rw [if_neg he] at h4
  obtain ⟨f8,f9⟩ := h4
  refine .inl ⟨he,main _ ?_⟩
  have hr : results F [⟨B,none⟩] a64.res = some (.tup [.nilp, .int .i64 (askErr p ps)]) := by
   show results F [⟨B,none⟩] [.t 8, .t 9] = _
   simp only [go_sem,simprocAttr,f8,f9]
  simp [leave,hr,low,lowL]
theorem reloc_nk {b : Bool} {l : List (List V)} : reloc 0 0 1 (.slice (nk b) l) = .slice (nk b) l := by cases b <;> rfl
theorem reloc_grown {e : Nat} {l : List (List V)} : reloc 0 0 1 (grown e l) = grown e l := by cases l <;> rfl
theorem rcells_rel {c : Rc} {st e : Int} {ins : List Ins} {evs : List Ev} : relocL 0 0 1 (rcells c st e ins evs) = rcells ⟨c.p,c.sh,c.b,reloc 0 0 1 c.mv,c.dry,c.mi⟩ st e ins evs := by
 simp only [rcells,rcw,relocL,reloc_nk,reloc_grown]
 rfl
def RInstsV (p : Prg) (ps : List Int) (v : V) : Prop :=
 if askErr p ps = 0 then
  (match (totD p ps).r with
  | .ok _ _ => if (totD p ps).i.length ≤ 4096 then v = .tup [.slice (nk (totD p ps).i.isEmpty) ((totD p ps).i.map encIns), .int .i64 0] else v = .tup [.slice .nil [], .int .i64 3]
  | .pan e => v = .tup [.slice .nil [], .int .i64 e])
 else v = .tup [.slice .nil [], .int .i64 (askErr p ps)]
theorem rinsts_ok {p : Prg} (hp : OkPrg p) (hw : wtL (encPrg p) ≤ 300000000) (hsm : ∀ s ∈ p.body,SmS s) {b : Bool} {ps : List Int} (hpl : ps.length ≤ LIM) :
  ∃ v,EvC theEnv 39 [.agg (encPrg p), .slice (nk b) (ps.map encI)] v ∧ RInstsV p ps v := by
 have fin : CallQ theEnv (.fn 39) [.agg (encPrg p), .slice (nk b) (ps.map encI)] [] (fun o S' => ∃ v,o = .ret v ∧ S' = [] ∧ RInstsV p ps v) → ∃ v,EvC theEnv 39 [.agg (encPrg p), .slice (nk b) (ps.map encI)] v ∧ RInstsV p ps v := by
  rintro ⟨o,S',h1,v,rfl,rfl,h2⟩
  exact ⟨v,h1,h2⟩
 refine fin ?_
 refine CallQ.fnZ rfl rfl rfl rfl ?_
 simp only [a39,c39,go_sem,simprocAttr,List.length_nil]
 rcases rdoneD_is hp hw hsm (b := b) hpl with ⟨he,hA⟩ | ⟨he,B,hE,hC⟩
 ·rw [evc12_call hA sx (fun n => by simp only [go_sem,simprocAttr])]
  simp only [go_sem,simprocAttr]
  rw [Run_if]
  simp only [go_sem,simprocAttr,he,List.length_nil]
  rw [FinZR_low sx]
  refine ⟨_,rfl,rfl,?_⟩
  unfold RInstsV
  rw [if_neg he]
 ·have hbar : barest B = true := by
   unfold EndT at hE
   cases hr : (totD p ps).r with
   | ok st rows => rw [hr] at hE; exact hE.b.2
   | pan e => rw [hr] at hE; obtain ⟨_,_,_,h⟩ := hE; exact h.b.2
  rw [Call_esc hC sx (by simp [bare,bareL]) hbar]
  simp only [go_sem,simprocAttr,List.length_nil,reloc,relocL,List.cons_append,List.nil_append,if_true]
  unfold EndT at hE
  cases hr : (totD p ps).r with
  | ok st rows =>
   rw [hr] at hE
   have hm1 : bget B 1 = _ := hE.m
   have hmr : bget (B.map (relocL 0 0 1)) 1 = some (rcells ⟨p,shapesOf ps p.arrays,p.arrays.isEmpty, .slice .nil [],true,1⟩ st 0 (totD p ps).i (totD p ps).l) := by
    unfold bget
    rw [List.getElem?_map,dz_was hm1,Option.map_some,rcells_rel]
    exact dz_rcells
   simp only [errOf,go_sem,simprocAttr,List.length_nil,hmr,rcells,rcw]
   rw [Run_if]
   simp only [go_sem,simprocAttr]
   by_cases h9 : (totD p ps).i.length ≤ 4096
   ·have h9' : ¬ (4096 : Int) < ((totD p ps).i.length : Int) := by omega
    have fin2 : RInstsV p ps (.tup [.slice (nk (totD p ps).i.isEmpty) ((totD p ps).i.map encIns), .int .i64 0]) := by
     unfold RInstsV
     rw [if_pos he,hr]
     simp only [h9,if_true]
    clear hE hm1
    revert hmr fin2 h9 h9'
    generalize (totD p ps).i = li
    cases li with
    | nil =>
     intro hmr h9 h9' fin2
     simp only [h9',go_sem,simprocAttr,List.length_nil,hmr,rcells,rcw,if_false,decide_false,grown,List.map_nil,List.isEmpty_nil]
     rw [FinZR_low sx]
     exact ⟨_,rfl,rfl,fin2⟩
    | cons y li =>
     intro hmr h9 h9' fin2
     simp only [h9',go_sem,simprocAttr,List.length_nil,hmr,rcells,rcw,if_false,decide_false,grown,List.map_cons,List.isEmpty_cons]
     rw [if_neg (by simpa using h9'),FinZR_low sx]
     exact ⟨_,rfl,rfl,fin2⟩
   ·have h9' : (4096 : Int) < ((totD p ps).i.length : Int) := by omega
    simp only [h9',go_sem,simprocAttr,List.length_nil,if_true,decide_true]
    rw [FinZR_low sx]
    refine ⟨_,rfl,rfl,?_⟩
    unfold RInstsV
    rw [if_pos he,hr]
    simp only [h9,if_false]
  | pan e =>
   rw [hr] at hE
   obtain ⟨st,rows,he0,hR⟩ := hE
   simp only [errOf,go_sem,simprocAttr,List.length_nil]
   rw [Run_if]
   simp only [go_sem,simprocAttr,he0,List.length_nil]
   rw [FinZR_low sx]
   refine ⟨_,rfl,rfl,?_⟩
   unfold RInstsV
   rw [if_pos he,hr]
end Y
end Wp
end AM
end Go.Proofs.YtimfbnojmdnlnaaGreat
