/- From a typed tree to the data; Weights of trees. -/
import Derived.Test.YtimfbnojmdnlnaaKM22
import Derived.Test.YtimfbnojmdnlnaaKM5
set_option linter.all false
set_option maxRecDepth 100000
section
namespace Go.Proofs.Ytimfbnojmdnlnaa
namespace AM
namespace Wp
def viewS (P:Program) (t:Nat):Option (Nat×List (Nat×Nat×Nat)):=match P.underlying t with | some (.struct fs)=>some (P.cellsOf t,fs.toList.map fun f=>(f.offset,f.type,P.cellsOf f.type)) | _=>none
def viewE (P:Program) (t:Nat):Option (Nat×Nat):=match P.underlying t with | some (.slice e)=>some (e,P.cellsOf e) | _=>none
theorem ty_S {P:Program} {n t c:Nat} {l:List (Nat×Nat×Nat)} {cs:List V} (hv:viewS P t=some (c,l)) (h:typed P n t cs):∃ m,m < n∧cs.length=c∧∀ o u k,(o,u,k)∈l→typed P m u ((cs.drop o).take k):=by
 cases n with
 | zero=>exact h.elim
 | succ n =>
  unfold viewS at hv
  unfold typed at h
  split at hv
  ·rename_i fs hu
   rw [hu] at h
   simp only [Option.some.injEq,Prod.mk.injEq] at hv
   obtain ⟨rfl,rfl⟩:=hv
   refine ⟨n,by omega,h.1,fun o u k hm=>?_⟩
   obtain ⟨f,hf,he⟩:=List.mem_map.1 hm
   cases he
   exact h.2 f hf
  ·cases hv
theorem ty_E {P:Program} {n t e c:Nat} {cs:List V} (hv:viewE P t=some (e,c)) (h:typed P n t cs):∃ m,m < n∧∃ b xs,cs=[.slice (nk b) xs]∧(b=true→xs=[])∧xs.length≤LIM∧∀ x∈xs,typed P m e x:=by
 cases n with
 | zero=>exact h.elim
 | succ n =>
  unfold viewE at hv
  unfold typed at h
  split at hv
  ·rename_i fs hu
   rw [hu] at h
   simp only [Option.some.injEq,Prod.mk.injEq] at hv
   obtain ⟨rfl,rfl⟩:=hv
   refine ⟨n,by omega,?_⟩
   rcases h with rfl | ⟨xs,rfl,hl,hx⟩
   ·exact ⟨true,[],rfl,fun _=>rfl,by simp,by simp⟩
   ·exact ⟨false,xs,rfl,(fun h=>by cases h),hl,fun x hm=>(hx x hm).2⟩
  ·cases hv
theorem rows_enc {α:Type} {enc:α→List V} {Ok:α→Prop}:∀ {xs:List (List V)},(∀ x∈xs, ∃ y,x=enc y∧Ok y)→∃ ys:List α,xs=ys.map enc∧∀ y∈ys,Ok y
 | [],_=>⟨[],rfl,by simp⟩
 | x::xs,h=>by
  obtain ⟨y,rfl,hy⟩:=h x List.mem_cons_self
  obtain ⟨ys,rfl,hys⟩:=rows_enc fun z hz=>h z (List.mem_cons_of_mem _ hz)
  exact ⟨y::ys,rfl,fun z hz=>by
   rcases List.mem_cons.1 hz with rfl | hz
   ·exact hy
   ·exact hys z hz⟩
theorem ty_sl {α:Type} {enc:α→List V} {Ok:α→Prop} {P:Program} {n t e c:Nat} {cs:List V} (hv:viewE P t=some (e,c)) (h:typed P n t cs) (he:∀ m,m < n→∀ x,typed P m e x→∃ y,x=enc y∧Ok y) :
  ∃ b ys,cs=[.slice (nk b) (ys.map enc)]∧ys.length≤LIM∧(∀ y∈ys,Ok y)∧(b=true→ys=[]):=by
 obtain ⟨m,hm,b,xs,rfl,hb,hl,hx⟩:=ty_E hv h
 obtain ⟨ys,rfl,hys⟩:=rows_enc fun x hxm=>he m hm x (hx x hxm)
 exact ⟨b,ys,rfl,by simpa using hl,hys,fun h=>by simpa using hb h⟩
theorem cutd {cs a:List V} {o c o':Nat} (h:(cs.drop o).take c=a) (ho:o+c=o':=by rfl):cs.drop o=a++cs.drop o':=by
 subst ho
 rw [← h, ← List.drop_drop,List.take_append_drop]
theorem u9:Try.prog.underlying 9=some .string:=by kernel_rfl
theorem ty_int {n:Nat} {cs:List V} (h:typed Try.prog n 3 cs):∃ i,cs=[.int .i64 i]∧inI i:=by
 cases n with
 | zero=>exact h.elim
 | succ n =>
  unfold typed at h
  rw [u3] at h
  obtain ⟨m,rfl,h1,h2⟩:=h
  exact ⟨m,rfl,h1,h2⟩
theorem ty_str {n:Nat} {cs:List V} (h:typed Try.prog n 9 cs):∃ s,cs=[.str s]∧s.size≤LIM:=by
 cases n with
 | zero=>exact h.elim
 | succ n =>
  unfold typed at h
  rw [u9] at h
  exact h
theorem v26:viewS Try.prog 26=some (3,[(0,22,1),(1,23,1),(2,24,1)]):=by kernel_rfl
theorem v22:viewE Try.prog 22=some (9,1):=by kernel_rfl
theorem v23:viewE Try.prog 23=some (83,2):=by kernel_rfl
theorem v83:viewS Try.prog 83=some (2,[(0,9,1),(1,42,1)]):=by kernel_rfl
theorem v42:viewE Try.prog 42=some (46,2):=by kernel_rfl
theorem v46:viewS Try.prog 46=some (2,[(0,35,1),(1,3,1)]):=by kernel_rfl
theorem v35:viewE Try.prog 35=some (3,1):=by kernel_rfl
theorem v24:viewE Try.prog 24=some (51,19):=by kernel_rfl
theorem v51:viewS Try.prog 51=some (19,[(0,3,1),(1,9,1),(2,38,1),(3,38,1),(4,3,1),(5,3,1),(6,41,2),(8,44,2),(10,49,7),(17,24,1),(18,24,1)]):=by kernel_rfl
theorem v38:viewS Try.prog 38=some (1,[(0,36,1)]):=by kernel_rfl
theorem v36:viewE Try.prog 36=some (130,1):=by kernel_rfl
theorem v130:viewE Try.prog 130=some (156,3):=by kernel_rfl
theorem v156:viewS Try.prog 156=some (3,[(0,46,2),(2,3,1)]):=by kernel_rfl
theorem v41:viewS Try.prog 41=some (2,[(0,3,1),(1,39,1)]):=by kernel_rfl
theorem v39:viewE Try.prog 39=some (131,1):=by kernel_rfl
theorem v131:viewE Try.prog 131=some (181,4):=by kernel_rfl
theorem v181:viewS Try.prog 181=some (4,[(0,3,1),(1,3,1),(2,46,2)]):=by kernel_rfl
theorem v44:viewS Try.prog 44=some (2,[(0,3,1),(1,42,1)]):=by kernel_rfl
theorem v49:viewS Try.prog 49=some (7,[(0,3,1),(1,3,1),(2,46,2),(4,44,2),(6,47,1)]):=by kernel_rfl
theorem v47:viewE Try.prog 47=some (49,7):=by kernel_rfl
theorem ty_Lin {n:Nat} {cs:List V} (h:typed Try.prog n 46 cs):∃ x,cs=encLin x∧OkLin x:=by
 obtain ⟨m,hm,hl,hq⟩:=ty_S v46 h
 obtain ⟨b,c,h0,hcl,hc,hz⟩:=ty_sl (enc:=encI) v35 (hq 0 35 1 (by simp)) fun m _ x hx=>ty_int hx
 obtain ⟨k,h1,hk⟩:=ty_int (hq 1 3 1 (by simp))
 have z:=cutd h0
 rw [cutd h1,List.drop_zero] at z
 exact ⟨⟨b,c,k⟩,by simpa [encLin,List.drop_eq_nil_of_le,hl] using z,hcl,hc,hk,hz⟩
theorem ty_Ref {n:Nat} {cs:List V} (h:typed Try.prog n 44 cs):∃ x,cs=encRef x∧OkRef x:=by
 obtain ⟨m,hm,hl,hq⟩:=ty_S v44 h
 obtain ⟨k,h0,hk⟩:=ty_int (hq 0 3 1 (by simp))
 obtain ⟨b,c,h1,hcl,hc,hz⟩:=ty_sl (enc:=encLin) v42 (hq 1 42 1 (by simp)) fun m _ x hx=>ty_Lin hx
 have z:=cutd h0
 rw [cutd h1,List.drop_zero] at z
 exact ⟨⟨k,b,c⟩,by simpa [encRef,List.drop_eq_nil_of_le,hl] using z,hk,hcl,hc,hz⟩
theorem ty_Exp:∀ n, ∀ cs,typed Try.prog n 49 cs→∃ x,cs=encExp x∧OkExp x:=by
 intro n
 induction n using Nat.strongRecOn with
 | ind n ih =>
  intro cs h
  obtain ⟨m,hm,hl,hq⟩:=ty_S v49 h
  obtain ⟨op,h0,hop⟩:=ty_int (hq 0 3 1 (by simp))
  obtain ⟨k,h1,hk⟩:=ty_int (hq 1 3 1 (by simp))
  obtain ⟨l,h2,hlin⟩:=ty_Lin (hq 2 46 2 (by simp))
  obtain ⟨r,h3,hr⟩:=ty_Ref (hq 4 44 2 (by simp))
  obtain ⟨b,c,h4,hcl,hc,hz⟩:=ty_sl (enc:=encExp) v47 (hq 6 47 1 (by simp)) fun k hk x hx=>ih k (by omega) x hx
  have z:=cutd h0
  rw [cutd h1,cutd h2,cutd h3,cutd h4,List.drop_zero] at z
  exact ⟨⟨op,k,l,r,b,c⟩,by simpa [encExp,encExps_map,List.drop_eq_nil_of_le,hl] using z, .mk _ hop hk hlin hr hcl hc hz⟩
theorem ty_Rw {n:Nat} {cs:List V} (h:typed Try.prog n 156 cs):∃ x,cs=encRw x∧OkRw x:=by
 obtain ⟨m,hm,hl,hq⟩:=ty_S v156 h
 obtain ⟨l,h0,hlin⟩:=ty_Lin (hq 0 46 2 (by simp))
 obtain ⟨d,h1,hd⟩:=ty_int (hq 2 3 1 (by simp))
 have z:=cutd h0
 rw [cutd h1,List.drop_zero] at z
 exact ⟨⟨l,d⟩,by simpa [encRw,List.drop_eq_nil_of_le,hl] using z,hlin,hd⟩
theorem ty_Part {n:Nat} {cs:List V} (h:typed Try.prog n 130 cs):∃ x,cs=encPart x∧OkPart x:=by
 obtain ⟨b,c,h0,hcl,hc,hz⟩:=ty_sl (enc:=encRw) v130 h fun m _ x hx=>ty_Rw hx
 exact ⟨⟨b,c⟩,h0,hcl,hc,hz⟩
theorem ty_Bound {n:Nat} {cs:List V} (h:typed Try.prog n 38 cs):∃ x,cs=encBound x∧OkBound x:=by
 obtain ⟨m,hm,hl,hq⟩:=ty_S v38 h
 obtain ⟨b,c,h0,hcl,hc,hz⟩:=ty_sl (enc:=encPart) v36 (hq 0 36 1 (by simp)) fun m _ x hx=>ty_Part hx
 have z:=cutd h0
 rw [List.drop_zero] at z
 exact ⟨⟨b,c⟩,by simpa [encBound,List.drop_eq_nil_of_le,hl] using z,hcl,hc,hz⟩
theorem ty_Cnd {n:Nat} {cs:List V} (h:typed Try.prog n 181 cs):∃ x,cs=encCnd x∧OkCnd x:=by
 obtain ⟨m,hm,hl,hq⟩:=ty_S v181 h
 obtain ⟨k,h0,hk⟩:=ty_int (hq 0 3 1 (by simp))
 obtain ⟨d,h1,hd⟩:=ty_int (hq 1 3 1 (by simp))
 obtain ⟨l,h2,hlin⟩:=ty_Lin (hq 2 46 2 (by simp))
 have z:=cutd h0
 rw [cutd h1,cutd h2,List.drop_zero] at z
 exact ⟨⟨k,d,l⟩,by simpa [encCnd,List.drop_eq_nil_of_le,hl] using z,hk,hd,hlin⟩
theorem ty_Piece {n:Nat} {cs:List V} (h:typed Try.prog n 131 cs):∃ x,cs=encPiece x∧OkPiece x:=by
 obtain ⟨b,c,h0,hcl,hc,hz⟩:=ty_sl (enc:=encCnd) v131 h fun m _ x hx=>ty_Cnd hx
 exact ⟨⟨b,c⟩,h0,hcl,hc,hz⟩
theorem ty_PSet {n:Nat} {cs:List V} (h:typed Try.prog n 41 cs):∃ x,cs=encPSet x∧OkPSet x:=by
 obtain ⟨m,hm,hl,hq⟩:=ty_S v41 h
 obtain ⟨k,h0,hk⟩:=ty_int (hq 0 3 1 (by simp))
 obtain ⟨b,c,h1,hcl,hc,hz⟩:=ty_sl (enc:=encPiece) v39 (hq 1 39 1 (by simp)) fun m _ x hx=>ty_Piece hx
 have z:=cutd h0
 rw [cutd h1,List.drop_zero] at z
 exact ⟨⟨k,b,c⟩,by simpa [encPSet,List.drop_eq_nil_of_le,hl] using z,hk,hcl,hc,hz⟩
theorem ty_Stm:∀ n, ∀ cs,typed Try.prog n 51 cs→∃ x,cs=encStm x∧OkStm x:=by
 intro n
 induction n using Nat.strongRecOn with
 | ind n ih =>
  intro cs h
  obtain ⟨m,hm,hl,hq⟩:=ty_S v51 h
  obtain ⟨kind,h0,hkind⟩:=ty_int (hq 0 3 1 (by simp))
  obtain ⟨name,h1,hname⟩:=ty_str (hq 1 9 1 (by simp))
  obtain ⟨low,h2,hlow⟩:=ty_Bound (hq 2 38 1 (by simp))
  obtain ⟨high,h3,hhigh⟩:=ty_Bound (hq 3 38 1 (by simp))
  obtain ⟨step,h4,hstep⟩:=ty_int (hq 4 3 1 (by simp))
  obtain ⟨mark,h5,hmark⟩:=ty_int (hq 5 3 1 (by simp))
  obtain ⟨test,h6,htest⟩:=ty_PSet (hq 6 41 2 (by simp))
  obtain ⟨target,h7,htarget⟩:=ty_Ref (hq 8 44 2 (by simp))
  obtain ⟨value,h8,hvalue⟩:=ty_Exp _ _ (hq 10 49 7 (by simp))
  obtain ⟨bn,b,h9,hbl,hb,hbz⟩:=ty_sl (enc:=encStm) v24 (hq 17 24 1 (by simp)) fun k hk x hx=>ih k (by omega) x hx
  obtain ⟨en,e,h10,hel,he,hez⟩:=ty_sl (enc:=encStm) v24 (hq 18 24 1 (by simp)) fun k hk x hx=>ih k (by omega) x hx
  have z:=cutd h0
  rw [cutd h1,cutd h2,cutd h3,cutd h4,cutd h5,cutd h6,cutd h7,cutd h8,cutd h9,cutd h10,List.drop_zero] at z
  exact ⟨⟨kind,name,low,high,step,mark,test,target,value,bn,b,en,e⟩,by simpa [encStm,encStms_map,List.drop_eq_nil_of_le,hl] using z, .mk _ hkind hname hlow hhigh hstep hmark htest htarget hvalue hbl hb hel he hbz hez⟩
theorem ty_Arr {n:Nat} {cs:List V} (h:typed Try.prog n 83 cs):∃ x,cs=encArr x∧OkArr x:=by
 obtain ⟨m,hm,hl,hq⟩:=ty_S v83 h
 obtain ⟨k,h0,hk⟩:=ty_str (hq 0 9 1 (by simp))
 obtain ⟨b,c,h1,hcl,hc,hz⟩:=ty_sl (enc:=encLin) v42 (hq 1 42 1 (by simp)) fun m _ x hx=>ty_Lin hx
 have z:=cutd h0
 rw [cutd h1,List.drop_zero] at z
 exact ⟨⟨k,b,c⟩,by simpa [encArr,List.drop_eq_nil_of_le,hl] using z,hk,hcl,hc,hz⟩
theorem ty_Prg {n:Nat} {cs:List V} (h:typed Try.prog n 26 cs):∃ x,cs=encPrg x∧OkPrg x:=by
 obtain ⟨m,hm,hl,hq⟩:=ty_S v26 h
 obtain ⟨pn,p,h0,hpl,hp,hpz⟩:=ty_sl (enc:=encS) v22 (hq 0 22 1 (by simp)) fun m _ x hx=>ty_str hx
 obtain ⟨an,a,h1,hal,ha,haz⟩:=ty_sl (enc:=encArr) v23 (hq 1 23 1 (by simp)) fun m _ x hx=>ty_Arr hx
 obtain ⟨bn,b,h2,hbl,hb,hbz⟩:=ty_sl (enc:=encStm) v24 (hq 2 24 1 (by simp)) fun m _ x hx=>ty_Stm m x hx
 have z:=cutd h0
 rw [cutd h1,cutd h2,List.drop_zero] at z
 exact ⟨⟨pn,p,an,a,bn,b⟩,by simpa [encPrg,encStms_map,List.drop_eq_nil_of_le,hl] using z,hpz,hpl,hp,hal,ha,hbl,hb,haz,hbz⟩
end Wp
end AM
end Go.Proofs.Ytimfbnojmdnlnaa
end
section
namespace Go.Proofs.Ytimfbnojmdnlnaa
namespace AM
namespace Wp
open Go.RowKit Go.ChangeShapes Go.WideShapes Go.ChangeAt
end Wp
end AM
end Go.Proofs.Ytimfbnojmdnlnaa
end
