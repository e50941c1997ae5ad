/- run.Run; An execution ends with no other error than these two; An execution keeps the shape of the memory. -/
import Derived.Test.YtimfbnojmdnlnaaKM34
import Derived.Test.YtimfbnojmdnlnaaKM18
set_option linter.all false
set_option maxRecDepth 100000
section
namespace Go.Proofs.Ytimfbnojmdnlnaa
namespace AM
namespace Wp
section
variable {E:Env} {ks:List KI} {F:Fr} {S R:St} {Q:Ex→Fr→St→Prop} {bs:List Blk} {d:Option Nat}
theorem CallLQ {f:Nat} {args:List V} {P:Out→St→Prop} (h:CallQ E (.fn f) args [] P) (hl:lowL 0 args=true) (hm:∀ o S',P o S'→∃ v,o=.ret v∧low 0 v=true∧Wk E (.s bs) ks (putO F d v) S Q):Call E f args d (.s bs) ks F S Q:=by
 simp only [Call,callK,hl,if_true]
 refine h.mono fun o S' hp=>?_
 obtain ⟨v,rfl,h1,h2⟩:=hm o S' hp
 exact ⟨h1,h2⟩
end
def RunV (p:Prg) (ps:List Int) (mem:List Mem) (v:V):Prop :=
 if askErr p ps=0 then
  (if fitV mem (shapesOf ps p.arrays)=true then
   (match bodyV (shapesOf ps p.arrays) p.body ps 0 (mem.map (·.row)) with
   | .ok st rows=>∃ (b:Bool) (ms:List Mem),ms.map (·.row)=rows∧v=.tup [.slice (nk b) (ms.map encMem), .int .i64 st, .int .i64 0]
   | .pan e=>v=.tup [.slice .nil [], .int .i64 0, .int .i64 e])
  else v=.tup [.slice .nil [], .int .i64 0, .int .i64 1])
 else v=.tup [.slice .nil [], .int .i64 0, .int .i64 (askErr p ps)]
theorem one_level {S:St} (hl:S.length=1) (hc:calmS S=true):∃ B,S=[⟨B,none⟩]:=by
 match S,hl with
 | [⟨B,lp⟩],_ =>
  simp only [calmS,List.all_cons,List.all_nil,Bool.and_eq_true,Bool.and_true] at hc
  cases lp with
  | none=>exact ⟨B,rfl⟩
  | some l=>cases hc.1
def ErrOk:Rs→Prop
 | .ok _ _=>True
 | .pan e=>e=3∨e=6
theorem run_ok {p:Prg} (hp:OkPrg p) {b bm:Bool} {ps:List Int} {mem:List Mem} (hz:b=true→ps=[]) (hpl:ps.length≤LIM) (hm:OkMem mem)
  (herr:∀ st rows,ErrOk (bodyV (shapesOf ps p.arrays) p.body ps st rows)) :
  ∃ v,EvC theEnv 23 [.agg (encPrg p), .slice (nk b) (ps.map encI), .slice (nk bm) (mem.map encMem)] v∧RunV p ps mem v:=by
 have fin:CallQ theEnv (.fn 23) [.agg (encPrg p), .slice (nk b) (ps.map encI), .slice (nk bm) (mem.map encMem)] [] (fun o S'=>∃ v,o=.ret v∧S'=[]∧RunV p ps mem v)→∃ v,EvC theEnv 23 [.agg (encPrg p), .slice (nk b) (ps.map encI), .slice (nk bm) (mem.map encMem)] v∧RunV p ps mem v:=by
  rintro ⟨o,S',h1,v,rfl,rfl,h2⟩
  exact ⟨v,h1,h2⟩
 refine fin ?_
 refine CallQ.fnZ rfl rfl rfl rfl ?_
 simp only [a23,c23,go_sem,simprocAttr,List.length_nil]
 rcases begun_is hp (b:=b) (bm:=bm) hpl hm with ⟨e,he0,hee,hfe,hA⟩ | ⟨he,hfit,hmn,hB⟩ | ⟨he,hfit,hmn,B,j,cs,hb1,hb2,hj,hrows,hC⟩
 ·rw [evc12_call hA sx (fun n=>by simp only [go_sem,simprocAttr])]
  simp only [go_sem,simprocAttr]
  rw [Run_if]
  simp only [go_sem,simprocAttr,he0,List.length_nil]
  rw [FinZR_low sx]
  refine ⟨_,rfl,rfl,?_⟩
  unfold RunV
  by_cases h0:askErr p ps=0
  ·rw [if_pos h0,if_neg (by rw [hfe h0]; decide)]
   rw [hee,if_pos h0]
  ·rw [if_neg h0]
   rw [hee,if_neg h0]
 ·obtain ⟨hc,hl,hin,hsh,hrng⟩:=ask_in he
  have hl2:ps.length≤1000:=by have:=(chk_head hc).1; omega
  have hagc:=cells_agree hc hsh
  have hex:=exec_run (B0:=[]) (rows:=[]) hp (bs:=(shapesOf ps p.arrays).isEmpty) hz hl2 (sh:=shapesOf ps p.arrays) (mv:=.slice .nil []) (.inl ⟨rfl,rfl⟩) (by
   have h1:=fitV_len hfit
   rw [hmn,hagc.1] at h1
   exact fit_of hc hsh h1) rfl (prg_okst hc hl)
  rw [evc12_call hB sx (fun n=>by simp only [go_sem,simprocAttr])]
  simp only [go_sem,simprocAttr,List.length_nil]
  refine CallLQ hex sx ?_
  rintro o S' hP
  have herr0:=herr 0 []
  subst hmn
  cases hbv:bodyV (shapesOf ps p.arrays) p.body ps 0 [] with
  | ok st rows' =>
   rw [hbv] at hP
   obtain ⟨rfl,hmb',_,_⟩:=hP
   have hr0:rows'=[]:=by
    rcases hmb' with ⟨h,_⟩ | ⟨oi,cs,h,_⟩
    ·exact h
    ·cases h
   refine ⟨_,rfl,by simp only [go_sem,simprocAttr],?_⟩
   simp only [go_sem,simprocAttr,List.length_nil]
   rw [FinZR_low sx]
   refine ⟨_,rfl,rfl,?_⟩
   unfold RunV
   rw [if_pos he,if_pos hfit,List.map_nil,hbv]
   exact ⟨true,[],by rw [hr0]; rfl,rfl⟩
  | pan e =>
   rw [hbv] at hP herr0
   obtain ⟨rfl,_,_⟩:=hP
   have he0:e≠0:=by rcases herr0 with rfl | rfl<;>decide
   refine ⟨_,rfl,by simp only [go_sem,simprocAttr],?_⟩
   simp only [go_sem,simprocAttr,List.length_nil]
   rw [Run_if]
   simp only [go_sem,simprocAttr,he0,List.length_nil]
   rw [FinZR_low sx]
   refine ⟨_,rfl,rfl,?_⟩
   unfold RunV
   rw [if_pos he,if_pos hfit,List.map_nil,hbv]
 ·obtain ⟨hc,hl,hin,hsh,hrng⟩:=ask_in he
  have hl2:ps.length≤1000:=by have:=(chk_head hc).1; omega
  have hagc:=cells_agree hc hsh
  have hmb:=hrows.mb (b:=encPrg p) hj
  have hcalm:calmS [⟨encPrg p::B.map (relocL 0 0 1),none⟩]=true:=by simp only [go_sem,simprocAttr,calmB_reloc,hb2]
  have hex:=exec_run (B0:=[⟨encPrg p::B.map (relocL 0 0 1),none⟩]) hp (bs:=(shapesOf ps p.arrays).isEmpty) hz hl2 hmb (by
   have h1:=fitV_len hfit
   rw [hagc.1] at h1
   exact fit_of hc hsh (mem:=mem.map (·.row)) (by rw [List.map_map]; exact h1)) hcalm (prg_okst hc hl)
  rw [Call_esc hC sx (by simp [bare,bareL]) hb1]
  simp only [go_sem,simprocAttr,List.length_nil,reloc,relocL,List.cons_append,List.nil_append,if_true]
  refine CallPQ hex (by simp only [go_sem,simprocAttr,Nat.not_lt_zero,decide_false,Bool.false_and,Bool.and_false]) sx ?_
  rintro o S' hP
  have herr0:=herr 0 (mem.map (·.row))
  cases hbv:bodyV (shapesOf ps p.arrays) p.body ps 0 (mem.map (·.row)) with
  | ok st rows' =>
   rw [hbv] at hP
   obtain ⟨rfl,hmb',hl1,hc1⟩:=hP
   obtain ⟨B',rfl⟩:=one_level hl1 hc1
   simp only [go_sem,simprocAttr,List.length_nil]
   obtain ⟨bz,ms,hms,hz1⟩:=frz_MB (k:=0) hmb'
   have hz2:AM.frz [⟨B',none⟩] 0 4 (.tup [.bsl 0 (1+j) 0 mem.length 1 35, .int .i64 st, .int .i64 0])=some (.tup [.slice (nk bz) (ms.map encMem), .int .i64 st, .int .i64 0]):=by
    simp only [AM.frz,List.mapM_cons,List.mapM_nil] at hz1 ⊢
    rw [hz1]
    rfl
   rw [FinZR_frz (by simp [low,lowL]) hz2 sx]
   refine ⟨_,rfl,rfl,?_⟩
   unfold RunV
   rw [if_pos he,if_pos hfit,hbv]
   exact ⟨bz,ms,hms,rfl⟩
  | pan e =>
   rw [hbv] at hP herr0
   obtain ⟨rfl,hl1,hc1⟩:=hP
   obtain ⟨B',rfl⟩:=one_level hl1 hc1
   have he0:e≠0:=by rcases herr0 with rfl | rfl<;>decide
   simp only [go_sem,simprocAttr,List.length_nil]
   rw [Run_if]
   simp only [go_sem,simprocAttr,he0,List.length_nil]
   rw [FinZR_low sx]
   refine ⟨_,rfl,rfl,?_⟩
   unfold RunV
   rw [if_pos he,if_pos hfit,hbv]
end Wp
end AM
end Go.Proofs.Ytimfbnojmdnlnaa
end
section
namespace Go.Proofs.Ytimfbnojmdnlnaa
namespace AM
namespace Wp
theorem err_step (st:Int) (rows:List (List Int)):ErrOk (stepV st rows):=by
 unfold stepV; split
 ·exact .inl rfl
 ·trivial
theorem err_asg (sh:List Shape) (s:Stm) (x:List Int) (st:Int) (rows:List (List Int)):ErrOk (assignV sh s x st rows):=by
 unfold assignV
 split
 ·exact .inl rfl
 ·split
  ·exact .inr rfl
  ·split
   ·exact .inr rfl
   ·trivial
theorem err_loop {f:Int→Int→List (List Int)→Rs} (hf:∀ v st rows,ErrOk (f v st rows)) (step high:Int):∀ (n:Nat) (v st:Int) (rows:List (List Int)),ErrOk (loopI f step high n v st rows)
 | 0,_,_,_=>trivial
 | n+1,v,st,rows=>by
  rw [loopI]
  split
  ·have h1:=err_step st rows
   cases hs:stepV st rows with
   | pan e=>rw [hs] at h1; exact h1
   | ok st2 rows2 =>
    have h2:=hf v st2 rows2
    simp only
    cases hb:f v st2 rows2 with
    | pan e=>rw [hb] at h2; exact h2
    | ok st3 rows3=>exact err_loop hf step high n _ st3 rows3
  ·trivial
theorem err_list {sh:List Shape}:∀ (l:List Stm),(∀ s∈l, ∀ x st rows,ErrOk (stmV sh s x st rows))→∀ x st rows,ErrOk (bodyV sh l x st rows)
 | [],_,_,_,_=>by rw [bodyV]; trivial
 | s::l,h,x,st,rows=>by
  rw [bodyV]
  have h1:=h s (by simp) x st rows
  cases hs:stmV sh s x st rows with
  | pan e=>rw [hs] at h1; exact h1
  | ok st2 rows2=>exact err_list l (fun t ht=>h t (List.mem_cons_of_mem _ ht)) x st2 rows2
theorem err_stm {sh:List Shape}:∀ (s:Stm) (x:List Int) (st:Int) (rows:List (List Int)),ErrOk (stmV sh s x st rows):=by
 refine Stm.ind fun s ihb ihe x st rows=>?_
 have hb:=err_list s.body ihb
 have he:=err_list s.els ihe
 rw [stmV_eq]
 split
 ·split
  ·exact .inr rfl
  ·split
   ·exact .inr rfl
   ·exact err_loop (fun v st rows=>hb _ st rows) _ _ _ _ st rows
 ·split
  ·split
   ·exact hb x st rows
   ·exact he x st rows
  ·exact err_asg sh s x st rows
theorem err_body (sh:List Shape) (l:List Stm) (x:List Int) (st:Int) (rows:List (List Int)):ErrOk (bodyV sh l x st rows):=err_list l (fun s _=>err_stm s) x st rows
end Wp
end AM
end Go.Proofs.Ytimfbnojmdnlnaa
end
section
namespace Go.Proofs.Ytimfbnojmdnlnaa
namespace AM
namespace Wp
def LenOk (ls:List Nat):Rs→Prop
 | .ok _ rows=>rows.map List.length=ls
 | .pan _=>True
theorem writeV_len {rows:List (List Int)} {a k:Nat} {v:Int}:(writeV rows a k v).map List.length=rows.map List.length:=by
 unfold writeV
 apply List.ext_getElem?
 intro i
 simp only [List.getElem?_map,List.getElem?_set]
 split
 ·rename_i h
  subst h
  split
  ·rename_i h1
   simp [h1]
  ·rename_i h1
   rw [List.getElem?_eq_none (by omega)]
 ·rfl
theorem len_step {ls:List Nat} {st:Int} {rows:List (List Int)} (h:rows.map List.length=ls):LenOk ls (stepV st rows):=by
 unfold stepV; split
 ·trivial
 ·exact h
theorem len_asg {ls:List Nat} (sh:List Shape) (s:Stm) (x:List Int) (st:Int) {rows:List (List Int)} (h:rows.map List.length=ls):LenOk ls (assignV sh s x st rows):=by
 unfold assignV
 split
 ·trivial
 ·split
  ·trivial
  ·split
   ·trivial
   ·exact writeV_len.trans h
theorem len_loop {ls:List Nat} {f:Int→Int→List (List Int)→Rs} (hf:∀ v st rows,rows.map List.length=ls→LenOk ls (f v st rows)) (step high:Int):∀ (n:Nat) (v st:Int) (rows:List (List Int)),rows.map List.length=ls→LenOk ls (loopI f step high n v st rows)
 | 0,_,_,_,h=>h
 | n+1,v,st,rows,h=>by
  rw [loopI]
  split
  ·have h1:=len_step (st:=st) h
   cases hs:stepV st rows with
   | pan e=>trivial
   | ok st2 rows2 =>
    rw [hs] at h1
    have h2:=hf v st2 rows2 h1
    simp only
    cases hb:f v st2 rows2 with
    | pan e=>trivial
    | ok st3 rows3=>rw [hb] at h2; exact len_loop hf step high n _ st3 rows3 h2
  ·exact h
theorem len_list {ls:List Nat} {sh:List Shape}:∀ (l:List Stm),(∀ s∈l, ∀ x st rows,rows.map List.length=ls→LenOk ls (stmV sh s x st rows))→∀ x st rows,rows.map List.length=ls→LenOk ls (bodyV sh l x st rows)
 | [],_,_,_,_,h=>by rw [bodyV]; exact h
 | s::l,h,x,st,rows,hr=>by
  rw [bodyV]
  have h1:=h s (by simp) x st rows hr
  cases hs:stmV sh s x st rows with
  | pan e=>trivial
  | ok st2 rows2=>rw [hs] at h1; exact len_list l (fun t ht=>h t (List.mem_cons_of_mem _ ht)) x st2 rows2 h1
theorem len_stm {ls:List Nat} {sh:List Shape}:∀ (s:Stm) (x:List Int) (st:Int) (rows:List (List Int)),rows.map List.length=ls→LenOk ls (stmV sh s x st rows):=by
 refine Stm.ind fun s ihb ihe x st rows hr=>?_
 have hb:=len_list s.body ihb
 have he:=len_list s.els ihe
 rw [stmV_eq]
 split
 ·split
  ·trivial
  ·split
   ·trivial
   ·exact len_loop (fun v st rows h=>hb _ st rows h) _ _ _ _ st rows hr
 ·split
  ·split
   ·exact hb x st rows hr
   ·exact he x st rows hr
  ·exact len_asg sh s x st hr
theorem len_body {sh:List Shape} {l:List Stm} {x:List Int} {st st':Int} {rows rows':List (List Int)} (h:bodyV sh l x st rows=.ok st' rows'):rows'.map List.length=rows.map List.length:=by
 have:=len_list (sh:=sh) (ls:=rows.map List.length) l (fun s _=>len_stm s) x st rows rfl
 rw [h] at this
 exact this
end Wp
end AM
end Go.Proofs.Ytimfbnojmdnlnaa
end
