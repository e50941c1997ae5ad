/- Slices in boxes: how simp goes through the operations that make, grow and read them; functions that hand them back frozen. -/
import Derived.Test.YtimfbnojmdnlnaaKM18
set_option linter.all false
namespace Go.Proofs.Ytimfbnojmdnlnaa
namespace AM
namespace Wp
section
variable {E:Env} {ks:List KI} {F:Fr} {S R:St} {Q:Ex→Fr→St→Prop} {os all:List AOper} {bs:List Blk} {d:Option Nat} {cn:Cn} {B:List (List V)} {lp:Option Lp}
@[go_sem] theorem strip_bsl {l i o n m e:Nat}:strip (.bsl l i o n m e)=.bsl l i o n m e:=_root_.id rfl
@[go_sem] theorem cp_bsl {l i o n m e:Nat}:cp (.bsl l i o n m e)=some (.bsl l i o n m e):=_root_.id rfl
@[go_sem] theorem tame_bsl {l i o n m e:Nat}:tame (.bsl l i o n m e)=true:=_root_.id rfl
@[go_sem] theorem low_bsl {k l i o n m e:Nat}:low k (.bsl l i o n m e)=decide (l < k):=by simp [low]
@[go_sem] theorem cellsOf_bsl {l i o n m e:Nat}:cellsOf (.bsl l i o n m e)=some [.bsl l i o n m e]:=_root_.id rfl
@[go_sem] theorem lenO_bsl {l i o n m e:Nat}:lenO false (.bsl l i o n m e)=some (.int .i64 n):=_root_.id rfl
theorem iaO_bsl {l i o k n e:Nat} {kk:IntKind} {j:Nat} (h:j < k):iaO n (.bsl l i o k n e) (.int kk (j:Int))=some (.ptr l i (o+j*n)):=by
 simp only [iaO]
 rw [if_pos ⟨by omega,by omega,trivial⟩]
 simp
def Mk (E:Env) (e n b:Nat) (z:List V) (x y:V) (d:Option Nat) (cn:Cn) (ks:List KI) (F:Fr) (S:St) (Q:Ex→Fr→St→Prop):Prop:=mkK e n b z x y d F S fun F S=>Wk E cn ks F S Q
def rep (k:Nat) (z:List V):List V:=(List.replicate k z).flatten
theorem rows_len {n:Nat}:∀ {rows:List (List V)},(∀ r∈rows,r.length=n)→rows.flatten.length=rows.length*n
 | [],_=>by simp
 | r::rs,h=>by
  simp only [List.flatten_cons,List.length_append,List.length_cons,Nat.succ_mul]
  rw [h r (by simp),rows_len fun r hr=>h r (by simp [hr])]; omega
theorem rows_drop {n:Nat}:∀ {rows:List (List V)},(∀ r∈rows,r.length=n)→∀ (j:Nat),rows.flatten.drop (j*n)=(rows.drop j).flatten
 | [],_,j=>by simp
 | r::rs,h,0=>by simp
 | r::rs,h,j+1=>by
  have h1:(r++rs.flatten).drop n=rs.flatten:=by
   have:=List.drop_left (l₁:=r) (l₂:=rs.flatten)
   rwa [h r (by simp)] at this
  rw [List.flatten_cons,Nat.succ_mul,Nat.add_comm, ← List.drop_drop,h1,rows_drop (fun r hr=>h r (by simp [hr]))]
  rfl
theorem cutL_rows {n:Nat} {rows:List (List V)} (h:∀ r∈rows,r.length=n) {j:Nat} {r:List V} (hj:rows[j]?=some r):cutL rows.flatten (j*n) n=some r:=by
 have hlt:=(List.getElem?_eq_some_iff.1 hj).1
 have hr:=h r (List.mem_of_getElem? hj)
 simp only [cutL]
 rw [rows_len h,if_pos (by
  have:(j+1)*n≤rows.length*n:=Nat.mul_le_mul_right _ hlt
  rw [Nat.succ_mul] at this; exact this),rows_drop h]
 congr 1
 have:rows.drop j=r::rows.drop (j+1):=by
  rw [← List.getElem_cons_drop hlt,(List.getElem?_eq_some_iff.1 hj).2]
 rw [this,List.flatten_cons,List.take_append_of_le_length (by omega),List.take_of_length_le (by omega)]
def FinZR (o:Option V) (S R:St) (Q:Out→St→Prop):Prop :=
 match o with
 | some v=>if low R.length v=true then Q (.ret v) R else (match frz S R.length 4 v with | some v'=>low R.length v'=true∧Q (.ret v') R | none=>False)
 | none=>False
def FinZ (res:List Res) (Q:Out→St→Prop):Ex→Fr→St→Prop
 | .pan v,_,_::R=>low R.length v=true∧Q (.pan v) R
 | .ret,F,T::R=>FinZR (results F (T::R) res) (T::R) R Q
 | .nrm,F,T::R=>FinZR (results F (T::R) res) (T::R) R Q
 | _,_,_=>False
variable {P:Out→St→Prop} {T:Lev}
@[go_sem] theorem FinZ_ret {res:List Res}:FinZ res P .ret F (T::R)=FinZR (results F (T::R) res) (T::R) R P:=_root_.id rfl
theorem FinZR_low {v:V} (h:low R.length v=true):FinZR (some v) S R P=P (.ret v) R:=by simp [FinZR,h]
theorem FinZR_frz {v v':V} (h:low R.length v=false) (hz:frz S R.length 4 v=some v') (h':low R.length v'=true):FinZR (some v) S R P=P (.ret v') R:=by simp [FinZR,h,hz,h']
theorem CallQ.fnZ {f:Nat} {af:AFunc} {args:List V} (hx:E.ext f=none) (hf:E.fn f=some af) (he:af.esc=false) (hn:args.length=af.np) (h:Run E [.c af.body] (args0 args) (⟨[],none⟩::S) (FinZ af.res P)):CallQ E (.fn f) args S P:=by
 obtain ⟨⟨e,F,T⟩,⟨K,h1⟩,h2⟩:=EvQ_run h
 simp only at h1 h2
 have key:∀ o R,leave af (some (e,F,T))=some (o,R)→P o R→CallQ E (.fn f) args S P:=by
  intro o R hl hp
  refine ⟨o,R,⟨K+1,fun j hj=>?_⟩,hp⟩
  obtain ⟨j,rfl⟩:∃ m,j=m+1:=⟨j - 1,by omega⟩
  simp only [callN,callBody,hx,hf,hn,if_true,h1 j j (by omega) (by omega),hl]
 have fin:∀ (T1:Lev) (R1:St) (e1:Ex),(e1=.ret∨e1=.nrm)→e=e1→T=T1::R1→FinZR (results F (T1::R1) af.res) (T1::R1) R1 P→CallQ E (.fn f) args S P:=by
  rintro T1 R1 e1 he1 rfl rfl hz
  unfold FinZR at hz
  split at hz
  ·rename_i v hv
   split at hz
   ·rename_i hl
    rcases he1 with rfl | rfl<;>exact key _ _ (by simp [leave,hv,hl]) hz
   ·rename_i hl
    split at hz
    ·rename_i v' hv'
     rcases he1 with rfl | rfl<;>exact key _ _ (by simp [leave,hv,hl,he,hv',hz.1]) hz.2
    ·exact hz.elim
  ·exact hz.elim
 unfold FinZ at h2
 split at h2
 ·exact key _ _ (by simp [leave,h2.1]) h2.2
 ·exact fin _ _ .ret (.inl rfl) rfl rfl h2
 ·exact fin _ _ .nrm (.inr rfl) rfl rfl h2
 ·exact h2.elim
theorem Sp.fnZ {f:Nat} {af:AFunc} {args:List V} {v:V} (hx:E.ext f=none) (hf:E.fn f=some af) (he:af.esc=false) (hn:args.length=af.np) (ha:lowL 0 args=true) (hv:∀ n,low n v=true)
  (h:∀ S,Run E [.c af.body] (args0 args) (⟨[],none⟩::S) (FinZ af.res fun o S'=>o=.ret v∧S'=S)):Sp E f args v:={
 s S:=by
  obtain ⟨o,S',hc,rfl,rfl⟩:=CallQ.fnZ hx hf he hn (h S)
  exact hc
 a:=ha
 l:=hv }
def still (c:V):Prop:=isCell c=true∧low 0 c=true∧strip c=c
theorem frz_still {lo k:Nat} {c:V} (h:still c):frz S lo (k+1) c=some c:=by
 obtain ⟨h1,h2,h3⟩:=h
 cases c<;>first | (simp [isCell] at h1; done) | (simp [low] at h2; done) | (simp only [frz]; rw [h3])
theorem mapM_still {lo k:Nat}:∀ {cs:List V},(∀ c∈cs,still c)→cs.mapM (frz S lo (k+1))=some cs
 | [],_=>rfl
 | c::cs,h=>by
  rw [List.mapM_cons,frz_still (h c (by simp)),mapM_still (cs:=cs) fun c hc=>h c (List.mem_cons_of_mem _ hc)]; rfl
theorem lowL_still:∀ {cs:List V},(∀ c∈cs,still c)→lowL 0 cs=true
 | [],_=>rfl
 | c::cs,h=>by
  have h1:=(h c (by simp)).2.1
  have h2:=lowL_still (cs:=cs) fun c hc=>h c (List.mem_cons_of_mem _ hc)
  simp [lowL,h1,h2]
theorem chunk_rows {n:Nat}:∀ {rows:List (List V)},(∀ r∈rows,r.length=n)→chunk n rows.length rows.flatten=rows:=by
 intro rows h
 apply List.ext_getElem?
 intro j
 unfold chunk
 rw [List.getElem?_map]
 rcases Nat.lt_or_ge j rows.length with hj | hj
 ·rw [List.getElem?_range hj]
  have:=cutL_rows h (List.getElem?_eq_getElem hj)
  simp only [cutL] at this
  split at this
  ·injection this with this
   simp only [Option.map_some,this,List.getElem?_eq_getElem hj]
  ·cases this
 ·rw [List.getElem?_eq_none (by simpa using hj),List.getElem?_eq_none hj]; rfl
theorem frz_rows {l i n e lo k:Nat} {rows:List (List V)} (hl:lo≤l) (hb:getBox S l i=some rows.flatten) (hn:0 < n) (h:∀ r∈rows,r.length=n) (hs:∀ c∈rows.flatten,still c) :
  frz S lo (k+2) (.bsl l i 0 rows.length n e)=some (.slice .shut rows):=by
 have h1:=mapM_still (S:=S) (lo:=lo) (k:=k) hs
 have hc:cutL rows.flatten 0 (rows.length*n)=some rows.flatten:=by simp [cutL,rows_len h,List.take_of_length_le]
 rw [frz]
 rw [if_neg (by omega)]
 split
 ·rename_i h0
  have:rows=[]:=List.eq_nil_of_length_eq_zero h0
  rw [this]
 ·rw [hb,Option.bind_some,hc,Option.bind_some,h1,Option.bind_some,if_pos ⟨hn,lowL_still hs⟩,chunk_rows h]
end
end Wp
end AM
end Go.Proofs.Ytimfbnojmdnlnaa
