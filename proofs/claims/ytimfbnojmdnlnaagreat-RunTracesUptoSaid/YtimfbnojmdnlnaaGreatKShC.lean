/- The reference's Wrap, Ceil, Floor, Low, High, Coord, Is, Assigns. -/
import Derived.Test.YtimfbnojmdnlnaaGreatKM41
import Derived.Test.YtimfbnojmdnlnaaGreatKSeE
set_option linter.all false
set_option maxRecDepth 100000
namespace Go.Proofs.YtimfbnojmdnlnaaGreat
namespace AM
namespace Wp
theorem wrapV_eq (n:Int):IntKind.i64.wrap (IntKind.i32.wrap n)=wrapV n:=by
 have h:∀ y:Int,(BitVec.ofInt 64 y &&& BitVec.ofInt 64 4294967295).toNat=(y % 18446744073709551616).toNat % 4294967296:=fun y=>by
  rw [BitVec.toNat_and,BitVec.toNat_ofInt,BitVec.toNat_ofInt]
  exact Nat.and_two_pow_sub_one_eq_mod _ 32
 unfold wrapV
 rw [h]
 rw [IntKind.wrap_i64,IntKind.wrap_i64,IntKind.wrap_i32,IntKind.wrap_i32,IntKind.wrap_u64,IntKind.wrap_u64]
 omega
theorem rwrap_ok (n:Int):Sp theEnv 128 [.int .i64 n] (.int .i64 (wrapV n)):=by
 refine Sp.fn rfl rfl rfl sx sy fun S=>?_; simp only [a128,c128,go_sem,simprocAttr]
 rw [wrapV_eq]
theorem rfloor_ok (a b:Int):Sp theEnv 157 [.int .i64 a, .int .i64 b] (.tup [.int .i64 (floorV a b), .int .i64 (divE b)]):=by
 refine Sp.fn rfl rfl rfl sx sy fun S=>?_; simp only [a157,c157,go_sem,simprocAttr]
 rw [Run_if]
 simp only [go_sem,simprocAttr,floorV,divE]
 by_cases h:b < 1
 ·simp only [h,go_sem,simprocAttr]
 ·have h0:b≠0:=by omega
  simp only [h,go_sem,simprocAttr,bin_quo h0,bin_rem h0]
  rw [Run_if]
  simp only [go_sem,simprocAttr]
  split<;>rename_i h2<;>simp only [h2,go_sem,simprocAttr,wi]
theorem rceil_ok (a b:Int):Sp theEnv 156 [.int .i64 a, .int .i64 b] (.tup [.int .i64 (ceilV a b), .int .i64 (divE b)]):=by
 refine Sp.fn rfl rfl rfl sx sy fun S=>?_; simp only [a156,c156,go_sem,simprocAttr]
 rw [Run_if]
 simp only [go_sem,simprocAttr,ceilV,divE]
 by_cases h:b < 1
 ·simp only [h,go_sem,simprocAttr]
 ·have h0:b≠0:=by omega
  simp only [h,go_sem,simprocAttr,bin_quo h0,bin_rem h0]
  rw [Run_if]
  simp only [go_sem,simprocAttr]
  split<;>rename_i h2<;>simp only [h2,go_sem,simprocAttr,wi]
theorem coord_ok (n:Int):Sp theEnv 131 [.int .i64 n] (.bool (decide (-4294967296≤n)&&decide (n≤4294967296))):=by
 refine Sp.fn rfl rfl rfl sx sy fun S=>?_; simp only [a131,c131,go_sem,simprocAttr]
theorem cis_ok {c:Cnd} (hc:OkCnd c) (hm:c.m≠0∨c.kind=0∨c.kind=1) {b:Bool} {x:List Int} (hl:c.l.c.length≤x.length) (hx:x.length≤LIM):Sp theEnv 182 [.agg (encCnd c), .slice (nk b) (x.map encI)] (.bool (cisV c x)):=by
 refine Sp.fn rfl rfl rfl sx sy fun S=>?_; simp only [a182,c182,go_sem,simprocAttr]
 simp only [(value_ok hc.l hl hx).call,go_sem,simprocAttr]
 rw [Run_if]
 simp only [go_sem,simprocAttr,cisV]
 by_cases h3:c.kind=0
 ·simp only [h3,go_sem,simprocAttr]
 ·simp only [h3,go_sem,simprocAttr]
  rw [Run_if]
  simp only [go_sem,simprocAttr]
  by_cases h4:c.kind=1
  ·simp only [h3,h4,go_sem,simprocAttr]
  ·have h5:c.m≠0:=by omega
   simp only [h3,h4,go_sem,simprocAttr,bin_rem h5]
def OkPc (nv:Nat) (p:Piece):Prop:=p.conds.length≤LIM∧∀ c∈p.conds,OkCnd c∧(c.m≠0∨c.kind=0∨c.kind=1)∧c.l.c.length≤nv
def OkTst (nv:Nat) (t:PSet):Prop:=t.pieces.length≤LIM∧∀ p∈t.pieces,OkPc nv p
theorem in4_ok {p:Piece} {nv:Nat} (hp:OkPc nv p) {b k:Bool} {x:List Int} (hn:x.length=nv) (hx:x.length≤LIM):Sp theEnv 158 [.slice (nk k) (p.conds.map encCnd), .slice (nk b) (x.map encI)] (.bool (inV4 x p)):=by
 refine Sp.fn rfl rfl rfl sx sy fun S=>?_; simp only [a158,c158,go_sem,simprocAttr]
 refine Run_all p.conds (fun c=>cisV c x) (fun S'=>∃ B,S'=⟨B,none⟩::S) [1,7] hp.1 sx sx rfl rfl rfl sx ⟨_,rfl⟩ ?_ ?_
 ·rintro k F _ c hc hm ⟨B,rfl⟩ hi hkept hall
  simp only [go_sem,simprocAttr] at hkept hall
  obtain ⟨h1,h2,h3⟩:=hp.2 c hm
  simp only [go_sem,simprocAttr,hkept,hi,iaO_map hc,badd_var,(cis_ok h1 h2 (by omega) hx).call,Run_if,inV4]
  grind
 ·rintro F _ hall ⟨B,rfl⟩ hkept
  simp only [go_sem,simprocAttr] at hkept
  simp only [go_sem,simprocAttr,inV4,hall]
theorem is4_ok {t:PSet} {nv:Nat} (ht:OkTst nv t) {b:Bool} {x:List Int} (hn:x.length=nv) (hx:x.length≤LIM):Sp theEnv 133 [.agg (encPSet t), .slice (nk b) (x.map encI)] (.bool (isV4 t x)):=by
 refine Sp.fn rfl rfl rfl sx sy fun S=>?_; simp only [a133,c133,go_sem,simprocAttr]
 refine Run_all t.pieces (fun p=>!inV4 x p) (fun S'=>∃ B,S'=⟨B,none⟩::S) [1,8] ht.1 sx sx rfl rfl rfl sx ⟨_,rfl⟩ ?_ ?_
 ·rintro k F _ p hp hm ⟨B,rfl⟩ hi hkept hno
  simp only [go_sem,simprocAttr] at hkept
  have h1:=in4_ok (ht.2 p hm) (b:=b) (k:=p.n) hn hx
  have hany:inV4 x p=true→isV4 t x=true:=fun h=>List.any_eq_true.2 ⟨p,hm,h⟩
  simp only [go_sem,simprocAttr,hkept,hi,iaO_map hp,encPiece,h1.call,Run_if]
  split
  ·rename_i h; rw [hany h]
  ·rename_i h; simpa using h
 ·rintro F _ hall ⟨B,rfl⟩ hkept
  simp only [go_sem,simprocAttr] at hkept
  have hna:isV4 t x=false:=by
   unfold isV4
   rw [List.any_eq_false]
   intro p hp
   have:=List.all_eq_true.1 hall p hp
   simpa using this
  simp only [go_sem,simprocAttr,hna]
theorem rasg_ok {l:List Stm} (hl:l.length≤LIM) (hok:∀ s∈l,OkStm s) (hw:wtR (l.map encStm)≤400000000) (b:Bool):Sp theEnv 134 [.slice (nk b) (l.map encStm)] (.int .i64 (nAsg l:Nat)):=by
 have h:=I.infos_ok hl hok b true true [] [] (by simp; omega) (by simp; omega)
 have h':Sp theEnv 49 [.slice (nk b) (l.map encStm), .slice .nil [], .slice .nil []] (grown 57 ((I.infL [] true [] 0 l).map I.encInfo)):=h
 refine Sp.fn rfl rfl rfl sx sy fun S=>?_; simp only [a134,c134,go_sem,simprocAttr]
 simp only [h'.call,go_sem,simprocAttr,List.length_map,infL_nAsg]
theorem mx_t {k:Nat} {o:Option Int} {w:Int} (h0:k=0→o=none) (h1:k≠0→∃ y,o=some y) (h:(decide (k=0)||decide (o.getD 0 < w))=true):w=imax (o.getD w) w:=by
 unfold imax
 by_cases hk:k=0
 ·rw [h0 hk]; simp
 ·obtain ⟨y,rfl⟩:=h1 hk
  simp [hk] at h ⊢; omega
theorem mx_f {k:Nat} {o:Option Int} {w:Int} (h1:k≠0→∃ y,o=some y) (h:¬ (decide (k=0)||decide (o.getD 0 < w))=true):o.getD 0=imax (o.getD w) w:=by
 unfold imax
 by_cases hk:k=0
 ·simp [hk] at h
 ·obtain ⟨y,rfl⟩:=h1 hk
  simp [hk] at h ⊢; omega
theorem mn_t {k:Nat} {o:Option Int} {w:Int} (h0:k=0→o=none) (h1:k≠0→∃ y,o=some y) (h:(decide (k=0)||decide (w < o.getD 0))=true):w=imin (o.getD w) w:=by
 unfold imin
 by_cases hk:k=0
 ·rw [h0 hk]; simp
 ·obtain ⟨y,rfl⟩:=h1 hk
  simp [hk] at h ⊢; omega
theorem mn_f {k:Nat} {o:Option Int} {w:Int} (h1:k≠0→∃ y,o=some y) (h:¬ (decide (k=0)||decide (w < o.getD 0))=true):o.getD 0=imin (o.getD w) w:=by
 unfold imin
 by_cases hk:k=0
 ·simp [hk] at h
 ·obtain ⟨y,rfl⟩:=h1 hk
  simp [hk] at h ⊢; omega
theorem fold_0 {α:Type} {f:Option Int→α→Option Int} {l:List α} {k:Nat} (h:k=0):(l.take k).foldl f none=none:=by subst h; rfl
theorem fold_1 {α:Type} {f:Option Int→α→Option Int} (hf:∀ o a,(f o a).isSome=true) {l:List α} {k:Nat} (hk:k < l.length) (h:k≠0):∃ y,(l.take k).foldl f none=some y :=
 fold_some hf (by intro e; have:=congrArg List.length e; rw [List.length_take,List.length_nil] at this; omega)
theorem rlow_ok {b:Bound} (hb:OkBound b) {k:Bool} {x:List Int} (hl:okBx x b) (hx:x.length≤LIM):Sp theEnv 129 [.agg (encBound b), .slice (nk k) (x.map encI)] (.int .i64 (boundR true x b)):=by
 refine Sp.fn rfl rfl rfl sx sy fun S=>?_; simp only [a129,c129,go_sem,simprocAttr]
 refine Run_range b.parts.length [1,14] [5] (fun k vs S'=>vs=[.int .i64 (((b.parts.take k).foldl (partStep true x) none).getD 0)]∧∃ B,S'=⟨encBound b::B,none⟩::S) (Nat.le_trans hl.1 (by decide)) sx sx rfl rfl rfl rfl sx ⟨by simp only [go_sem,simprocAttr,List.take_zero,List.foldl_nil,Option.getD_none],_,rfl⟩ ?_ ?_
 ·rintro k F _ hk ⟨hv,B,rfl⟩ hi hkept
  simp only [go_sem,simprocAttr] at hkept hv
  obtain ⟨q,hq⟩:∃ q,b.parts[k]?=some q:=⟨b.parts[k],List.getElem?_eq_getElem hk⟩
  have hqm:=List.mem_of_getElem? hq
  have hqo:=hl.2 q hqm
  simp only [go_sem,simprocAttr,hkept,hi,iaO_map hq]
  refine Run_range q.rows.length [1,5,6,14,16,21] [8] (fun k2 vs S'=>vs=[.int .i64 (((q.rows.take k2).foldl (rowStep true x) none).getD 0)]∧∃ B,S'=⟨encBound b::B,none⟩::S) (Nat.le_trans hqo.1 (by decide)) sx sx rfl rfl rfl rfl (by simp only [go_sem,simprocAttr,hkept,hv,hi]) ⟨by simp only [go_sem,simprocAttr,List.take_zero,List.foldl_nil,Option.getD_none],_,rfl⟩ ?_ ?_
  ·rintro k2 F2 _ hk2 ⟨hv2,B2,rfl⟩ hi2 hkept2
   simp only [go_sem,simprocAttr,hkept,hv,hi] at hkept2 hv2
   obtain ⟨r,hr⟩:∃ r,q.rows[k2]?=some r:=⟨q.rows[k2],List.getElem?_eq_getElem hk2⟩
   have hrl:=hqo.2 r (List.mem_of_getElem? hr)
   have hro:=((hb.s q hqm).s r (List.mem_of_getElem? hr)).l
   have hsn:(q.rows.take (k2+1)).foldl (rowStep true x) none=rowStep true x ((q.rows.take k2).foldl (rowStep true x) none) r:=foldl_snoc hr
   simp only [go_sem,simprocAttr,hkept2,hi2,hv2,iaO_map hr,(value_ok hro hrl hx).call,(rceil_ok _ _).call]
   rw [hsn,Run_if]
   simp only [go_sem,simprocAttr]
   have h0:=fold_0 (f:=rowStep true x) (l:=q.rows) (k:=k2)
   have h1:=fold_1 (f:=rowStep true x) (fun _ _=>rfl) hk2
   split
   ·rename_i h
    exact mx_t h0 h1 h
   ·rename_i h
    rw [hv2]
    exact congrArg (V.int .i64) (mx_f h1 h)
  ·rintro F2 _ ⟨hv2,B2,rfl⟩ hkept2
   simp only [go_sem,simprocAttr,hkept,hv,hi] at hkept2 hv2
   rw [List.take_length,show ((q.rows.foldl (rowStep true x) none).getD 0)=partV true x q from rfl] at hv2
   have hsn:(b.parts.take (k+1)).foldl (partStep true x) none=partStep true x ((b.parts.take k).foldl (partStep true x) none) q:=foldl_snoc hq
   simp only [go_sem,simprocAttr,hkept2,hv2,hv]
   rw [hsn,Run_if]
   simp only [go_sem,simprocAttr]
   have h0:=fold_0 (f:=partStep true x) (l:=b.parts) (k:=k)
   have h1:=fold_1 (f:=partStep true x) (fun _ _=>rfl) hk
   split
   ·rename_i h
    simp only [go_sem,simprocAttr,hv2]
    exact mn_t h0 h1 h
   ·rename_i h
    simp only [hkept2,hv]
    exact congrArg (V.int .i64) (mn_f h1 h)
 ·rintro F _ ⟨hv,B,rfl⟩ hkept
  simp only [go_sem,simprocAttr] at hkept hv
  rw [List.take_length,show ((b.parts.foldl (partStep true x) none).getD 0)=boundR true x b from rfl] at hv
  simp only [go_sem,simprocAttr,hkept,hv]
theorem rhigh_ok {b:Bound} (hb:OkBound b) {k:Bool} {x:List Int} (hl:okBx x b) (hx:x.length≤LIM):Sp theEnv 130 [.agg (encBound b), .slice (nk k) (x.map encI)] (.int .i64 (boundR false x b)):=by
 refine Sp.fn rfl rfl rfl sx sy fun S=>?_; simp only [a130,c130,go_sem,simprocAttr]
 refine Run_range b.parts.length [1,14] [5] (fun k vs S'=>vs=[.int .i64 (((b.parts.take k).foldl (partStep false x) none).getD 0)]∧∃ B,S'=⟨encBound b::B,none⟩::S) (Nat.le_trans hl.1 (by decide)) sx sx rfl rfl rfl rfl sx ⟨by simp only [go_sem,simprocAttr,List.take_zero,List.foldl_nil,Option.getD_none],_,rfl⟩ ?_ ?_
 ·rintro k F _ hk ⟨hv,B,rfl⟩ hi hkept
  simp only [go_sem,simprocAttr] at hkept hv
  obtain ⟨q,hq⟩:∃ q,b.parts[k]?=some q:=⟨b.parts[k],List.getElem?_eq_getElem hk⟩
  have hqm:=List.mem_of_getElem? hq
  have hqo:=hl.2 q hqm
  simp only [go_sem,simprocAttr,hkept,hi,iaO_map hq]
  refine Run_range q.rows.length [1,5,6,14,16,21] [8] (fun k2 vs S'=>vs=[.int .i64 (((q.rows.take k2).foldl (rowStep false x) none).getD 0)]∧∃ B,S'=⟨encBound b::B,none⟩::S) (Nat.le_trans hqo.1 (by decide)) sx sx rfl rfl rfl rfl (by simp only [go_sem,simprocAttr,hkept,hv,hi]) ⟨by simp only [go_sem,simprocAttr,List.take_zero,List.foldl_nil,Option.getD_none],_,rfl⟩ ?_ ?_
  ·rintro k2 F2 _ hk2 ⟨hv2,B2,rfl⟩ hi2 hkept2
   simp only [go_sem,simprocAttr,hkept,hv,hi] at hkept2 hv2
   obtain ⟨r,hr⟩:∃ r,q.rows[k2]?=some r:=⟨q.rows[k2],List.getElem?_eq_getElem hk2⟩
   have hrl:=hqo.2 r (List.mem_of_getElem? hr)
   have hro:=((hb.s q hqm).s r (List.mem_of_getElem? hr)).l
   have hsn:(q.rows.take (k2+1)).foldl (rowStep false x) none=rowStep false x ((q.rows.take k2).foldl (rowStep false x) none) r:=foldl_snoc hr
   simp only [go_sem,simprocAttr,hkept2,hi2,hv2,iaO_map hr,(value_ok hro hrl hx).call,(rfloor_ok _ _).call]
   rw [hsn,Run_if]
   simp only [go_sem,simprocAttr]
   have h0:=fold_0 (f:=rowStep false x) (l:=q.rows) (k:=k2)
   have h1:=fold_1 (f:=rowStep false x) (fun _ _=>rfl) hk2
   split
   ·rename_i h
    exact mn_t h0 h1 h
   ·rename_i h
    rw [hv2]
    exact congrArg (V.int .i64) (mn_f h1 h)
  ·rintro F2 _ ⟨hv2,B2,rfl⟩ hkept2
   simp only [go_sem,simprocAttr,hkept,hv,hi] at hkept2 hv2
   rw [List.take_length,show ((q.rows.foldl (rowStep false x) none).getD 0)=partV false x q from rfl] at hv2
   have hsn:(b.parts.take (k+1)).foldl (partStep false x) none=partStep false x ((b.parts.take k).foldl (partStep false x) none) q:=foldl_snoc hq
   simp only [go_sem,simprocAttr,hkept2,hv2,hv]
   rw [hsn,Run_if]
   simp only [go_sem,simprocAttr]
   have h0:=fold_0 (f:=partStep false x) (l:=b.parts) (k:=k)
   have h1:=fold_1 (f:=partStep false x) (fun _ _=>rfl) hk
   split
   ·rename_i h
    simp only [go_sem,simprocAttr,hv2]
    exact mx_t h0 h1 h
   ·rename_i h
    simp only [hkept2,hv]
    exact congrArg (V.int .i64) (mx_f h1 h)
 ·rintro F _ ⟨hv,B,rfl⟩ hkept
  simp only [go_sem,simprocAttr] at hkept hv
  rw [List.take_length,show ((b.parts.foldl (partStep false x) none).getD 0)=boundR false x b from rfl] at hv
  simp only [go_sem,simprocAttr,hkept,hv]
end Wp
end AM
end Go.Proofs.YtimfbnojmdnlnaaGreat
