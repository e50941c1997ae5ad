/- run.machine for whatever is told of uses: what it holds; step; the point grows and shrinks; run.machine for whatever is told of uses: body; run.machine for whatever is told of uses: loop; any statements; run.machine for whatever is told of uses: expressions and assignments of a machine that computes. -/
import Derived.Test.YtimfbnojmdnlnaaKSiA
import Derived.Test.YtimfbnojmdnlnaaKM32
import Derived.Test.YtimfbnojmdnlnaaKM43
set_option linter.all false
set_option maxRecDepth 100000
section
namespace Go.Proofs.Ytimfbnojmdnlnaa
namespace AM
namespace Wp
namespace Y
variable {U:St} {T:Lev} {B1:List (List V)} {B0:St} {L:Nat}
structure Mc where
 L:Nat
 sh:List Shape
 b:Bool
 mv:V
 np:Nat
 vi:Nat
 mi:Nat
 dry:Bool
 uf:V
 J:List Ins→List Ev→St→Prop
def Mc.uv (c:Mc):V:=.func (.func 92) [.ptr c.L 1 0, .ptr c.L c.vi 0]
def Mc.cells (c:Mc) (xv:V) (st:Int):List V:=machU (.slice (nk c.b) (c.sh.map encShape)) c.mv c.np xv st c.dry c.uv
structure MI (c:Mc) (x:List Int) (st:Int) (rows:List (List Int)) (ins:List Ins) (evs:List Ev) (B1:List (List V)) (B0:St):Prop where
 l:B0.length=c.L
 m:∃ xv,bget B1 c.mi=some (c.cells xv st)∧XB c.L B1 xv x
 u:bget B1 1=some [c.uf]
 v:bget B1 c.vi=some [.ptr c.L c.mi 0]
 r:c.dry=false→MB B0 c.mv rows∧Fit c.sh rows
 p:PI B1
 c1:calmB B1=true
 c0:calmS B0=true
 cm:calmC [c.mv]=true
 j:c.J ins evs B0
 uk:∃ f cs,c.uf=.func (.func f) cs
variable {c:Mc} {x:List Int} {st:Int} {rows:List (List Int)} {ins:List Ins} {evs:List Ev}
theorem dz_cells {xv:V}:dz (some (c.cells xv st))=some (c.cells xv st):=rfl
theorem calm_cells {xv:V} (hm:calmC [c.mv]=true) (hx:calmC [xv]=true):calmC (c.cells xv st)=true:=by
 unfold Mc.cells Mc.uv machU
 rw [calmC_slice,calmC_cons,hm,calmC_int,calmC_cons,hx]
 simp only [go_sem,simprocAttr,goodR_map fun s _=>good_Shape s]
theorem cells_ints (c:Mc) (xv:V) (st:Int):∀ r:List Int,c.cells xv st≠ints r:=ne_ints (by intro n h; cases h)
theorem MI.uf (h:MI c x st rows ins evs B1 B0):∀ n,c.uf≠.int .i64 n:=by
 obtain ⟨f,cs,hf⟩:=h.uk
 intro n hn
 rw [hf] at hn; cases hn
theorem XB.mset {xv:V} {w:List V} {xv0:V} {st0:Int} (h:XB c.L B1 xv x) (hm:bget B1 c.mi=some (c.cells xv0 st0)):XB c.L (bset B1 c.mi w) xv x:=by
 rcases h with h | ⟨xi,rest,h4,h1,h2⟩
 ·exact .inl h
 ·refine .inr ⟨xi,rest,h4,h1,?_⟩
  rw [bget_ne,h2]
  rintro rfl
  rw [hm] at h2
  exact cells_ints c _ _ _ (Option.some.inj h2)
theorem MI.mset (h:MI c x st rows ins evs B1 B0) {xv xv':V} {x':List Int} {st':Int} (hm:bget B1 c.mi=some (c.cells xv st)) (hx:XB c.L (bset B1 c.mi (c.cells xv' st')) xv' x'):MI c x' st' rows ins evs (bset B1 c.mi (c.cells xv' st')) B0:=by
 have len:∀ {i:Nat} {w:List V},bget B1 i=some w→w.length≠12→i≠c.mi:=by
  rintro i w hi hl rfl
  rw [hm] at hi
  cases hi
  exact hl rfl
 have n1:=len h.u (by simp)
 have n2:=len h.v (by simp)
 have n3:=len h.p.1 (by simp)
 have n4:=len h.p.2 (by simp)
 exact ⟨h.l,⟨xv',bget_set hm dz_cells,hx⟩,by rw [bget_ne n1]; exact h.u,by rw [bget_ne n2]; exact h.v,h.r,⟨by rw [bget_ne n3]; exact h.p.1,by rw [bget_ne n4]; exact h.p.2⟩,calmB_set h.c1 (calm_cells h.cm hx.calm),h.c0,h.cm,h.j,h.uk⟩
def EndP (c:Mc) (x:List Int) (ins:List Ins) (evs:List Ev) (B1:List (List V)) (B0:St) (t:Tr) (o:Out):Prop :=
 match t.r with
 | .ok st rows=>o=.ret (.tup [])∧MI c x st rows (ins++t.i) (evs++t.l) B1 B0
 | .pan e=>o=.pan (ended e)∧PI B1∧B0.length=c.L∧calmS B0=true
def EndQ (c:Mc) (x:List Int) (U:St) (ins:List Ins) (evs:List Ev) (t:Tr):Out→St→Prop:=fun o S'=>∃ B1 B0,S'=base U B1 B0∧EndP c x ins evs B1 B0 t o
theorem endQ_ok {t:Tr} (hr:t.r=.ok st rows) (h:MI c x st rows (ins++t.i) (evs++t.l) B1 B0):EndQ c x U ins evs t (.ret (.tup [])) (base U B1 B0):=⟨_,_,rfl,by unfold EndP; rw [hr]; exact ⟨rfl,h⟩⟩
theorem endQ_pan {t:Tr} {e:Int} (hr:t.r=.pan e) (h:PI B1) (hl:B0.length=c.L∧calmS B0=true):EndQ c x U ins evs t (.pan (ended e)) (base U B1 B0):=⟨_,_,rfl,by unfold EndP; rw [hr]; exact ⟨rfl,h,hl⟩⟩
theorem step_run (h:MI c x st rows ins evs B1 B0):CallQ theEnv (.fn 141) [.ptr c.L c.mi 0] (base U B1 B0) (EndQ c x U ins evs (stepT st rows)):=by
 obtain ⟨xv,hm,hx⟩:=h.m
 have hR:=h.l
 have hm2:=hm
 unfold Mc.cells machU at hm2
 refine CallQ.fn rfl rfl rfl ?_
 simp only [a141,c141,go_sem,simprocAttr,hR,hm2]
 rw [Run_if]
 simp only [go_sem,simprocAttr]
 split
 ·rename_i h1
  exact endQ_pan (e:=3) (by simp [stepT,stepV,h1]) h.p ⟨h.l,h.c0⟩
 ·rename_i h1
  simp only [go_sem,simprocAttr,hR,hm2,setAt_at0,Nat.lt_succ_self]
  refine endQ_ok (st:=wi (st+1)) (rows:=rows) (by simp [stepT,stepV,h1]) ?_
  have:=h.mset (st':=wi (st+1)) hm (XB.mset hx hm)
  simpa [stepT,Mc.cells,machU,wi] using this
theorem MI.app (h:MI c x st rows ins evs B1 B0) {xv:V} (hm:bget B1 c.mi=some (c.cells xv st)) (hx:XB c.L B1 xv x) :
  MI c (x++[0]) st rows ins evs (bset (appB B1 xv x) c.mi (c.cells (.bsl c.L (blen B1) 0 (x.length+1) 1 3) st)) B0:=by
 have hm':bget (appB B1 xv x) c.mi=some (c.cells xv st):=appB_get hx hm (.inr (cells_ints c xv st))
 have len:∀ {i:Nat} {w:List V},bget B1 i=some w→w.length≠12→i≠c.mi:=by
  rintro i w hi hl rfl
  rw [hm] at hi
  cases hi
  exact hl rfl
 have get:∀ {i:Nat} {w:List V},bget B1 i=some w→w.length≠12→(i < 4∨∀ r,w≠ints r)→bget (bset (appB B1 xv x) c.mi (c.cells (.bsl c.L (blen B1) 0 (x.length+1) 1 3) st)) i=some w:=by
  intro i w hi hl hr
  rw [bget_ne (len hi hl)]
  exact appB_get hx hi hr
 have hnb:blen B1≠c.mi:=by have:=bget_lt hm; unfold blen; omega
 refine ⟨h.l,⟨_,bget_set hm' dz_cells, .inr ⟨blen B1,[],h.p.len,by simp,?_⟩⟩,get h.u (by simp) (.inr (ne_ints h.uf)),get h.v (by simp) (.inr (ne_ints (by intro n h; cases h))),h.r,⟨get h.p.1 (by simp) (.inl (by decide)),get h.p.2 (by simp) (.inl (by decide))⟩,calmB_set (appB_calm h.c1) (calm_cells h.cm rfl),h.c0,h.cm,h.j,h.uk⟩
 rw [bget_ne hnb,List.append_nil]
 exact appB_new
theorem MI.setx {w v:Int} (h:MI c (x++[w]) st rows ins evs B1 B0):∃ (xi:Nat) (rest:List Int),bget B1 c.mi=some (c.cells (.bsl c.L xi 0 (x.length+1) 1 3) st)∧bget B1 xi=some (ints ((x++[w])++rest)) ∧
  setAt (ints ((x++[w])++rest)) x.length [.int .i64 v]=ints ((x++[v])++rest)∧MI c (x++[v]) st rows ins evs (bset B1 xi (ints ((x++[v])++rest))) B0:=by
 obtain ⟨xv,hm,hx⟩:=h.m
 rcases hx with ⟨h0,_⟩ | ⟨xi,rest,h4,rfl,hb⟩
 ·simp at h0
 ·rw [show (x++[w]).length=x.length+1 from by simp] at hm
  have e1:setAt (ints ((x++[w])++rest)) x.length [.int .i64 v]=ints ((x++[v])++rest):=by
   rw [ints_setAt (by simp)]
   congr 1
   simp [List.set_append]
  have ne:∀ {i:Nat} {u:List V},bget B1 i=some u→(i < 4∨∀ r,u≠ints r)→i≠xi:=by
   rintro i u hi hr rfl
   rcases hr with hr | hr
   ·omega
   ·rw [hb] at hi
    exact hr _ (Option.some.inj hi).symm
  have get:∀ {i:Nat} {u:List V},bget B1 i=some u→(i < 4∨∀ r,u≠ints r)→bget (bset B1 xi (ints ((x++[v])++rest))) i=some u:=by
   intro i u hi hr
   rw [bget_ne (ne hi hr)]; exact hi
  refine ⟨xi,rest,hm,hb,e1,h.l,⟨_,get hm (.inr (cells_ints c _ st)), .inr ⟨xi,rest,h4,by simp,bget_set hb (dz_ints _)⟩⟩,get h.u (.inr (ne_ints h.uf)),get h.v (.inr (ne_ints (by intro n h; cases h))),h.r,⟨get h.p.1 (.inl (by decide)),get h.p.2 (.inl (by decide))⟩,calmB_set h.c1 (calm_ints _),h.c0,h.cm,h.j,h.uk⟩
theorem MI.cutx {w:Int} (h:MI c (x++[w]) st rows ins evs B1 B0):∃ xi:Nat,bget B1 c.mi=some (c.cells (.bsl c.L xi 0 (x.length+1) 1 3) st)∧MI c x st rows ins evs (bset B1 c.mi (c.cells (.bsl c.L xi 0 x.length 1 3) st)) B0:=by
 obtain ⟨xv,hm,hx⟩:=h.m
 rcases hx with ⟨h0,_⟩ | ⟨xi,rest,h4,rfl,hb⟩
 ·simp at h0
 ·rw [show (x++[w]).length=x.length+1 from by simp] at hm
  refine ⟨xi,hm,h.mset hm (.inr ⟨xi,w::rest,h4,rfl,?_⟩)⟩
  rw [bget_ne,hb]
  ·simp
  ·rintro rfl
   rw [hm] at hb
   exact cells_ints c _ st _ (Option.some.inj hb)
end Y
end Wp
end AM
end Go.Proofs.Ytimfbnojmdnlnaa
end
section
namespace Go.Proofs.Ytimfbnojmdnlnaa
namespace AM
namespace Wp
namespace Y
variable {U:St} {T:Lev} {B1:List (List V)} {B0:St} {L:Nat} {c:Mc} {x:List Int} {st:Int} {rows:List (List Int)} {ins:List Ins} {evs:List Ev}
def BodyQ (c:Mc) (nv:Nat) (l:List Stm):Prop:=∀ (b:Bool) (x:List Int) (first st:Int) (rows:List (List Int)) (ins:List Ins) (evs:List Ev) (B1:List (List V)) (B0 U:St),x.length=nv→InRng x→calmS U=true→MI c x st rows ins evs B1 B0 →
 CallQ theEnv (.fn 94) [.ptr c.L c.mi 0, .slice (nk b) (l.map encStm), .int .i64 first] (base U B1 B0) (EndQ c x U ins evs (bodyT c.sh c.np c.dry l x first st rows))
def LoopQ (c:Mc) (nv:Nat) (s:Stm):Prop:=∀ (x:List Int) (first st:Int) (rows:List (List Int)) (ins:List Ins) (evs:List Ev) (B1:List (List V)) (B0 U:St),x.length=nv→InRng x→calmS U=true→MI c x st rows ins evs B1 B0 →
 CallQ theEnv (.fn 122) [.ptr c.L c.mi 0, .agg (encStm s), .int .i64 first] (base U B1 B0) (EndQ c x U ins evs (stmT c.sh c.np c.dry s x first st rows))
def AsgQ (c:Mc) (nv:Nat) (s:Stm):Prop:=∀ (x:List Int) (num st:Int) (rows:List (List Int)) (ins:List Ins) (evs:List Ev) (B1:List (List V)) (B0 U:St),x.length=nv→calmS U=true→MI c x st rows ins evs B1 B0 →
 CallQ theEnv (.fn 125) [.ptr c.L c.mi 0, .agg (encStm s), .int .i64 num] (base U B1 B0) (EndQ c x U ins evs (assignT c.sh c.np c.dry s x num st rows))
theorem frz_x {T:Lev} {xv:V} (hl:B0.length=L) (h:XB L B1 xv x):∃ b,frz (T::base U B1 B0) 0 4 xv=some (.slice (nk b) (x.map encI)):=Wp.frz_x hl h
theorem body_list {nv:Nat} (hnv:nv≤1000) {l:List Stm} (hl:l.length≤LIM) (hok:∀ s∈l,OkStm s∧OkAs s∧OkTs nv s) (hn:nAsg l≤1000000000) (h1:∀ s∈l,s.kind=1→LoopQ c nv s) (h2:∀ s∈l,s.kind=2→BodyQ c nv s.body∧BodyQ c nv s.els)
  (h3:∀ s∈l,s.kind≠1→s.kind≠2→AsgQ c nv s):BodyQ c nv l:=by
 intro b x first st rows ins evs B1 B0 U hx hxr hU h
 have hxl:x.length≤LIM:=by rw [hx]; exact Nat.le_trans hnv (by decide)
 have hR0:=h.l
 generalize htot:bodyT c.sh c.np c.dry l x first st rows=tot
 refine CallQ.fn rfl rfl rfl ?_
 simp only [a94,c94,go_sem,simprocAttr,hR0]
 refine Run_range l.length [0,10] [2] (fun k vs S'=>∃ (B B1:List (List V)) (B0:St) (f st':Int) (rows':List (List Int)) (i1:List Ins) (l1:List Ev),vs=[.int .i64 f]∧S'=⟨B,none⟩::base U B1 B0∧calmB B=true∧MI c x st' rows' (ins++i1) (evs++l1) B1 B0∧tot=tapp i1 l1 (bodyT c.sh c.np c.dry (l.drop k) x f st' rows'))
  (Nat.le_trans hl (by decide)) sx sx rfl rfl rfl rfl sx ⟨[],B1,B0,first,st,rows,[],[],by simp only [go_sem,simprocAttr],rfl,rfl,by simpa using h,by rw [tapp_nil,List.drop_zero]; exact htot.symm⟩ ?_ ?_
 ·rintro k F _ hk ⟨B,B1,B0,f,st',rows',i1,l1,hv,rfl,hB,h,ht⟩ hi hkept
  simp only [go_sem,simprocAttr] at hkept hv
  obtain ⟨s,hs⟩:∃ s,l[k]?=some s:=⟨l[k],List.getElem?_eq_getElem hk⟩
  have hm:=List.mem_of_getElem? hs
  obtain ⟨hso,has,hts⟩:=hok s hm
  have hns:=nAsg_mem hm
  rw [drop_at hs,bodyT] at ht
  have hR:=h.l
  have hB':calmB (B++[encStm s])=true:=by simp only [go_sem,simprocAttr,hB]
  have hU':calmS (⟨B++[encStm s],none⟩::U)=true:=by simp only [go_sem,simprocAttr,hB,hU]
  have hasg:Sp theEnv 124 [.slice .shut [encStm s]] (.int .i64 (nAsgS s:Nat)):=by
   have h0:=asgs_ok (l:=[s]) (show 1≤LIM by decide) (by simpa using hso) false
   have h9:nAsg [s]=nAsgS s:=by rw [nAsg,nAsg]; rfl
   rw [asgL_is (l:=[s]) (by simpa using has) (by omega),h9] at h0
   exact h0
  -- behind a statement
  have fin:∀ {F1:Fr} {t:Tr} {o:Out} {B1':List (List V)} {B0':St},tot=tapp i1 l1 (t.bind fun st rows=>bodyT c.sh c.np c.dry (l.drop (k+1)) x (wi (f+(nAsgS s:Nat))) st rows)→EndP c x (ins++i1) (evs++l1) B1' B0' t o →
    (∃ e,o=.pan (ended e)∧B0'.length=c.L∧EndQ c x U ins evs tot (.pan (ended e)) (base U B1' B0'))∨(o=.ret (.tup [])∧B0'.length=c.L∧∃ (st2:Int) (rows2:List (List Int)) (i2:List Ins) (l2:List Ev),MI c x st2 rows2 (ins++i2) (evs++l2) B1' B0'∧tot=tapp i2 l2 (bodyT c.sh c.np c.dry (l.drop (k+1)) x (wi (f+(nAsgS s:Nat))) st2 rows2)):=by
   intro F1 t o B1' B0' ht hend
   unfold EndP at hend
   cases hr:t.r with
   | pan e =>
    rw [hr] at hend
    obtain ⟨rfl,hp,hl⟩:=hend
    rw [tapp_pan hr] at ht
    exact .inl ⟨e,rfl,hl.1,endQ_pan (by rw [ht]) hp hl⟩
   | ok st2 rows2 =>
    rw [hr] at hend
    obtain ⟨rfl,h'⟩:=hend
    rw [tapp_ok hr] at ht
    rw [List.append_assoc,List.append_assoc] at h'
    exact .inr ⟨rfl,h'.l,st2,rows2,_,_,h',ht⟩
  simp only [go_sem,simprocAttr,hR,hkept,hi,hv,iaO_map hs]
  rw [Run_if]
  simp only [go_sem,simprocAttr]
  split
  ·rename_i hk1
   simp only [go_sem,simprocAttr,hR,hkept,hv]
   refine CallPQ (h1 s hm hk1 x f st' rows' _ _ B1 B0 (⟨B++[encStm s],none⟩::U) hx hxr hU' h) low0_ptr rfl ?_
   rintro o S' ⟨B1',B0',rfl,hend⟩
   rw [base_up]
   rcases fin (F1:=F) ht hend with ⟨e,rfl,hl,hq⟩ | ⟨rfl,hR',st2,rows2,i2,l2,h',ht'⟩
   ·simp only [go_sem,simprocAttr,hl,hkept]
    exact ⟨rfl,hq⟩
   ·simp only [go_sem,simprocAttr,hR',hkept,hv,hasg.call]
    exact ⟨_,B1',B0',_,_,_,_,_,rfl,⟨rfl,rfl⟩,hB',h',ht'⟩
  ·rename_i hk1
   rw [Run_if]
   simp only [go_sem,simprocAttr]
   split
   ·rename_i hk2
    rw [stmT_eq,if_neg hk1,if_pos hk2] at ht
    rw [nAsgS_eq,if_neg hk1,if_pos hk2] at hns
    obtain ⟨hb1,hb2⟩:=h2 s hm hk2
    obtain ⟨xv,hmm,hxb⟩:=h.m
    unfold Mc.cells machU at hmm
    have hxs:=hxb.s (U:=U) hR
    obtain ⟨bx,hfx⟩:=frz_x (U:=U) (B0:=B0) (T:=⟨B++[encStm s],none⟩) hR hxb
    have hhas:=has_ok hso.test' (b:=bx) hxl
    obtain ⟨hba,hea⟩:(∀ t∈s.body,OkAs t)∧∀ t∈s.els,OkAs t:=by
     cases has with
     | loop h=>omega
     | test _ hb he=>exact ⟨hb,he⟩
     | asg h=>omega
    have his:isV4 s.test x=(hasV s.test x).1:=by
     cases hts with
     | loop h=>omega
     | test _ h12 hvs hd _ _=>exact is_has hso.test' hvs (by rw [hd,hx]) (by omega) hxr
     | asg _ h=>exact absurd hk2 h
    have hasb:∀ b,Sp theEnv 124 [.slice (nk b) (s.body.map encStm)] (.int .i64 (nAsg s.body:Nat)):=fun b=>by
     have h0:=asgs_ok hso.bn' hso.body' b
     rw [asgL_is hba (by omega)] at h0
     exact h0
    rw [his] at ht
    simp only [go_sem,simprocAttr,hR,hkept,hv,hmm,hxs.st,hxs.tm]
    rw [Callw_sp hhas (by simp only [go_sem,simprocAttr,List.mapM_cons,List.mapM_nil,frz_PSet,hfx]; rfl) rfl]
    simp only [go_sem,simprocAttr]
    rw [Run_if]
    simp only [go_sem,simprocAttr]
    split
    ·rename_i hh
     rw [if_pos hh] at ht
     simp only [go_sem,simprocAttr,hR,hkept,hv]
     refine CallPQ (hb1 s.bn x f st' rows' _ _ B1 B0 (⟨B++[encStm s],none⟩::U) hx hxr hU' h) low0_ptr rfl ?_
     rintro o S' ⟨B1',B0',rfl,hend⟩
     rw [base_up]
     rcases fin (F1:=F) ht hend with ⟨e,rfl,hl,hq⟩ | ⟨rfl,hR',st2,rows2,i2,l2,h',ht'⟩
     ·simp only [go_sem,simprocAttr,hl,hkept]
      exact ⟨rfl,hq⟩
     ·simp only [go_sem,simprocAttr,hR',hkept,hv,hasg.call]
      exact ⟨_,B1',B0',_,_,_,_,_,rfl,⟨rfl,rfl⟩,hB',h',ht'⟩
    ·rename_i hh
     rw [if_neg hh] at ht
     simp only [go_sem,simprocAttr,hR,hkept,hv,(hasb _).call]
     refine CallPQ (hb2 s.en x _ st' rows' _ _ B1 B0 (⟨B++[encStm s],none⟩::U) hx hxr hU' h) low0_ptr rfl ?_
     rintro o S' ⟨B1',B0',rfl,hend⟩
     rw [base_up]
     rcases fin (F1:=F) ht hend with ⟨e,rfl,hl,hq⟩ | ⟨rfl,hR',st2,rows2,i2,l2,h',ht'⟩
     ·simp only [go_sem,simprocAttr,hl,hkept]
      exact ⟨rfl,hq⟩
     ·simp only [go_sem,simprocAttr,hR',hkept,hv,hasg.call]
      exact ⟨_,B1',B0',_,_,_,_,_,rfl,⟨rfl,rfl⟩,hB',h',ht'⟩
   ·rename_i hk2
    rw [stmT_eq,if_neg hk1,if_neg hk2] at ht
    simp only [go_sem,simprocAttr,hR,hkept,hv]
    refine CallPQ (h3 s hm hk1 hk2 x f st' rows' _ _ B1 B0 (⟨B++[encStm s],none⟩::U) hx hU' h) low0_ptr rfl ?_
    rintro o S' ⟨B1',B0',rfl,hend⟩
    rw [base_up]
    rcases fin (F1:=F) ht hend with ⟨e,rfl,hl,hq⟩ | ⟨rfl,hR',st2,rows2,i2,l2,h',ht'⟩
    ·simp only [go_sem,simprocAttr,hl,hkept]
     exact ⟨rfl,hq⟩
    ·simp only [go_sem,simprocAttr,hR',hkept,hv,hasg.call]
     exact ⟨_,B1',B0',_,_,_,_,_,rfl,⟨rfl,rfl⟩,hB',h',ht'⟩
 ·rintro F _ ⟨B,B1,B0,f,st',rows',i1,l1,hv,rfl,hB,h,ht⟩ hkept
  simp only [go_sem,simprocAttr] at hkept hv
  rw [List.drop_length,bodyT] at ht
  have hR:=h.l
  simp only [go_sem,simprocAttr,hR,hkept,hv]
  exact endQ_ok (st:=st') (rows:=rows') (by rw [ht]; rfl) (by rw [ht]; simpa [tapp] using h)
end Y
end Wp
end AM
end Go.Proofs.Ytimfbnojmdnlnaa
end
section
namespace Go.Proofs.Ytimfbnojmdnlnaa
namespace AM
namespace Wp
namespace Y
variable {U:St} {T:Lev} {B1:List (List V)} {B0:St} {L:Nat} {c:Mc} {x:List Int} {st:Int} {rows:List (List Int)} {ins:List Ins} {evs:List Ev}
theorem loop_run {nv:Nat} (hnv:nv+1≤1000) {s:Stm} (hso:OkStm s) (hk:s.kind=1) (hlo:okBn nv s.low) (hhi:okBn nv s.high) (hst:1≤s.step∧s.step≤64) (hbq:BodyQ c (nv+1) s.body):LoopQ c nv s:=by
 intro x first st rows ins evs B1 B0 U hx hxr hU h
 subst hx
 have hxl:x.length≤LIM:=Nat.le_trans (show x.length≤1000 by omega) (by decide)
 obtain ⟨xv,hm,hxb⟩:=h.m
 have hm1:=hm
 unfold Mc.cells machU at hm1
 have hxs:=hxb.s (U:=U) h.l
 have hR0:=h.l
 have hcalm:calmS (⟨[encStm s],none⟩::base U B1 B0)=true:=by simp only [go_sem,simprocAttr,calm_base,hU,h.c1,h.c0]
 have hlow:=bound_runU true (S:=⟨[encStm s],none⟩::base U B1 B0) (b:=s.low) (by rw [getBox_up1 h.l]; exact hm) hxs.up hlo hxl hcalm
 have hhigh:=bound_runU false (S:=⟨[encStm s],none⟩::base U B1 B0) (b:=s.high) (by rw [getBox_up1 h.l]; exact hm) hxs.up hhi hxl hcalm
 refine CallQ.fn rfl rfl rfl ?_
 rw [stmT_eq,if_pos hk]
 simp only [a122,c122,go_sem,simprocAttr,hR0]
 rw [CallP hlow low0_ptr rfl]
 cases hlv:boundV true x s.low with
 | none =>
  simp only [outN,go_sem,simprocAttr,hR0]
  exact ⟨rfl,endQ_pan rfl h.p ⟨h.l,h.c0⟩⟩
 | some lo =>
  simp only [outN,go_sem,simprocAttr,hR0]
  rw [CallP hhigh low0_ptr rfl]
  cases hhv:boundV false x s.high with
  | none =>
   simp only [outN,go_sem,simprocAttr,hR0]
   exact ⟨rfl,endQ_pan rfl h.p ⟨h.l,h.c0⟩⟩
  | some hi =>
   have r1:=boundV_rng hlv
   have r2:=boundV_rng hhv
   have hio:isOwn xv=false:=by rcases hxb with ⟨_,rfl⟩ | ⟨xi,rest,_,rfl,_⟩<;>rfl
   simp only
   generalize htot:loopT (fun v st rows=>bodyT c.sh c.np c.dry s.body (x++[v]) first st rows) s.step hi (hi - lo+1).toNat lo st rows=tot
   simp only [outN,go_sem,simprocAttr,hR0,hm1,hio,hxs.st,hxs.tm]
   rw [apprx (k:=.own 3) (mi:=c.mi) h.l hxb (by omega) sx sx sx]
   have hma:=appB_get hxb hm (.inr (cells_ints c xv st))
   have hM:=h.app hm hxb
   unfold Mc.cells machU at hma
   simp only [Mc.cells,machU] at hM
   simp only [go_sem,simprocAttr,hR0,hma,setAt_at0,Nat.lt_succ_self]
   revert hM
   generalize bset (appB B1 xv x) c.mi [.slice (nk c.b) (c.sh.map encShape),c.mv, .int .i64 c.np, .bsl c.L (blen B1) 0 (x.length+1) 1 3, .int .i64 st, .bool c.dry,c.uv, .func (.func 116) [], .func (.func 118) [], .func (.func 119) [], .func (.func 120) [], .func (.func 121) []]=B1a
   intro hM
   have hwr:IntKind.i64.wrap (((x.length+1:Nat):Int) - 1)=(x.length:Int):=by rw [wrap64 (by omega) (by omega)]; omega
   have hUs:calmS (⟨[encStm s],none⟩::U)=true:=by simp only [go_sem,simprocAttr,hU]
   refine Run_loop [0,2,4,7] (fun m F S=>∃ (v st':Int) (rows':List (List Int)) (i1:List Ins) (l1:List Ev) (w:Int) (B1:List (List V)) (B0:St),F 8=.int .i64 v∧S=⟨[encStm s],none⟩::base U B1 B0∧MI c (x++[w]) st' rows' (ins++i1) (evs++l1) B1 B0∧hi - v+1≤(m:Int)∧v≤4294967360∧-4294967296≤v ∧
    tot=tapp i1 l1 (loopT (fun v st rows=>bodyT c.sh c.np c.dry s.body (x++[v]) first st rows) s.step hi m v st' rows')) (hi - lo+1).toNat rfl sx ⟨lo,st,rows,[],[],0,B1a,B0,by simp only [go_sem,simprocAttr],rfl,by simpa using hM,by omega,by omega,by omega,by rw [tapp_nil]; exact htot.symm⟩ ?_
   rintro m F _ ⟨v,st',rows',i1,l1,w,B1,B0,hv8,rfl,h,hmv,hv1,hv2,hL⟩ hkept
   have hR:=h.l
   simp only [go_sem,simprocAttr] at hkept
   simp only [go_sem,simprocAttr,hR,hkept,hv8]
   rw [Run_if]
   simp only [go_sem,simprocAttr]
   split
   ·rename_i hle
    obtain ⟨m,rfl⟩:∃ m',m=m'+1:=⟨m - 1,by omega⟩
    rw [loopT,if_pos hle] at hL
    simp only [go_sem,simprocAttr,hR,hkept]
    refine CallPQ (step_run (U:=⟨[encStm s],none⟩::U) h) low0_ptr rfl ?_
    rintro o S' ⟨B1',B0',rfl,hend⟩
    rw [base_up]
    by_cases h65:st'=65536
    ·subst h65
     rw [step_pan] at hL
     obtain ⟨rfl,hp,hpl⟩:=(hend:o=.pan (ended 3)∧PI B1'∧B0'.length=c.L∧calmS B0'=true)
     simp only [go_sem,simprocAttr,hpl,hkept,hv8]
     exact ⟨rfl,endQ_pan (by rw [hL]; rfl) hp hpl⟩
    ·rw [step_ok h65] at hL
     have hend':o=.ret (.tup [])∧MI c (x++[w]) (wi (st'+1)) rows' (ins++i1) (evs++l1) B1' B0':=by
      have e3:stepT st' rows'=⟨.ok (wi (st'+1)) rows',[],[]⟩:=by simp [stepT,stepV,h65]
      rw [e3] at hend
      simpa [EndP] using hend
     obtain ⟨rfl,h'⟩:=hend'
     have hR':=h'.l
     obtain ⟨xi,rest,x1,x2,x3,hM2⟩:=h'.setx (v:=v)
     unfold Mc.cells machU at x1
     have hia:∀ kk:IntKind,iaO 1 (.bsl c.L xi 0 (x.length+1) 1 3) (.int kk (x.length:Int))=some (.ptr c.L xi x.length):=fun kk=>by
      rw [iaO_bsl (by omega)]; simp
     have hle3:x.length+1≤(ints ((x++[w])++rest)).length:=by rw [ints_len]; simp
     have hrun:=hbq s.bn (x++[v]) first (wi (st'+1)) rows' _ _ _ B0' (⟨[encStm s],none⟩::U) (by simp) (hxr.snoc ⟨by omega,by omega⟩) hUs hM2
     rw [base_up] at hrun
     simp only [go_sem,simprocAttr,hR',hkept,hv8,x1,hwr,hia,x2,x3,hle3]
     have x3':setAt (ints (x++w::rest)) x.length [.int .i64 v]=ints ((x++[v])++rest):=by rw [← x3]; simp
     rw [x3']
     refine ⟨by rw [ints_len]; simp,CallPQ hrun low0_ptr rfl ?_⟩
     rintro o S' ⟨B1b,B0b,rfl,hend⟩
     rw [base_up]
     unfold EndP at hend
     cases hbv:(bodyT c.sh c.np c.dry s.body (x++[v]) first (wi (st'+1)) rows').r with
     | pan e =>
      rw [hbv] at hend
      obtain ⟨rfl,hp,hpl⟩:=hend
      rw [tapp_pan hbv] at hL
      simp only [go_sem,simprocAttr,hpl,hkept,hv8]
      exact ⟨rfl,endQ_pan (by rw [hL]) hp hpl⟩
     | ok st3 rows3 =>
      rw [hbv] at hend
      obtain ⟨rfl,h3⟩:=hend
      rw [tapp_ok hbv] at hL
      rw [List.append_assoc,List.append_assoc] at h3
      have hR3:=h3.l
      have hw2:wi (v+s.step)=v+s.step:=wi_id (by omega) (by omega)
      have hw3:IntKind.i64.wrap (v+s.step)=v+s.step:=hw2
      simp only [go_sem,simprocAttr,hR3,hkept,hv8,hw3]
      rw [hw2] at hL
      exact ⟨m,by omega,v+s.step,st3,rows3,_,_,v,B1b,B0b,rfl,rfl,h3,by omega,by omega,by omega,hL⟩
   ·rename_i hle
    have hL':tot=⟨.ok st' rows',i1,l1⟩:=by
     rw [hL]
     cases m with
     | zero=>simp [loopT,tapp]
     | succ m=>rw [loopT,if_neg hle]; simp [tapp]
    obtain ⟨xi,x1,hM2⟩:=h.cutx
    unfold Mc.cells machU at x1
    have hcut:cutO 1 (.bsl c.L xi 0 (x.length+1) 1 3) none (some (.int .i64 (x.length:Int)))=some (.bsl c.L xi 0 x.length 1 3):=by
     simp [cutO,ondH,ondO,natIn]
     rw [if_pos (by omega)]; rfl
    simp only [go_sem,simprocAttr,hR,hkept,hv8,x1,hwr,hcut,setAt_at0,Nat.lt_succ_self]
    rw [hL']
    exact endQ_ok rfl hM2
theorem stmq (hasg:∀ (s:Stm) (nv:Nat),OkStm s→OkSt c.sh nv s→nv≤1000→c.np≤nv→s.kind≠1→s.kind≠2→AsgQ c nv s):∀ s:Stm,OkStm s→OkAs s→nAsgS s≤1000000000→∀ nv,nv≤1000→c.np≤nv→OkSt c.sh nv s→OkTs nv s →
  (s.kind=1→LoopQ c nv s)∧(s.kind=2→BodyQ c nv s.body∧BodyQ c nv s.els):=by
 refine Stm.ind fun s ihb ihe hs ha hn nv hnv hnp h1 h2=>?_
 rw [nAsgS_eq] at hn
 refine ⟨fun hk=>?_,fun hk=>?_⟩
 ·rw [if_pos hk] at hn
  cases h1 with
  | test h=>omega
  | asg h=>exact absurd hk h
  | loop _ hnl hlo hhi hst hb =>
   cases h2 with
   | test h=>omega
   | asg h=>exact absurd hk h
   | loop _ ht =>
    cases ha with
    | test h=>omega
    | asg h=>omega
    | loop _ _ hc =>
     have hm:=fun t (m:t∈s.body)=>Nat.le_trans (nAsg_mem m) hn
     exact loop_run hnl hs hk hlo hhi hst (body_list (by omega) hs.bn' (fun t m=>⟨hs.body' t m,hc t m,ht t m⟩) hn
      (fun t m=>(ihb t m (hs.body' t m) (hc t m) (hm t m) (nv+1) (by omega) (by omega) (hb t m) (ht t m)).1) (fun t m=>(ihb t m (hs.body' t m) (hc t m) (hm t m) (nv+1) (by omega) (by omega) (hb t m) (ht t m)).2)
      (fun t m=>hasg t (nv+1) (hs.body' t m) (hb t m) (by omega) (by omega)))
 ·rw [if_neg (by omega),if_pos hk] at hn
  cases h1 with
  | loop h=>omega
  | asg _ h=>exact absurd hk h
  | test _ hb he =>
   cases h2 with
   | loop h=>omega
   | asg _ h=>exact absurd hk h
   | test _ _ _ _ ht ht' =>
    cases ha with
    | loop h=>omega
    | asg h=>omega
    | test _ hc hc' =>
     have hm:=fun t (m:t∈s.body)=>Nat.le_trans (nAsg_mem m) (show nAsg s.body≤1000000000 by omega)
     have hm':=fun t (m:t∈s.els)=>Nat.le_trans (nAsg_mem m) (show nAsg s.els≤1000000000 by omega)
     exact ⟨body_list hnv hs.bn' (fun t m=>⟨hs.body' t m,hc t m,ht t m⟩) (by omega)
      (fun t m=>(ihb t m (hs.body' t m) (hc t m) (hm t m) nv hnv hnp (hb t m) (ht t m)).1) (fun t m=>(ihb t m (hs.body' t m) (hc t m) (hm t m) nv hnv hnp (hb t m) (ht t m)).2) (fun t m=>hasg t nv (hs.body' t m) (hb t m) hnv hnp),
      body_list hnv hs.en' (fun t m=>⟨hs.els' t m,hc' t m,ht' t m⟩) (by omega)
      (fun t m=>(ihe t m (hs.els' t m) (hc' t m) (hm' t m) nv hnv hnp (he t m) (ht' t m)).1) (fun t m=>(ihe t m (hs.els' t m) (hc' t m) (hm' t m) nv hnv hnp (he t m) (ht' t m)).2) (fun t m=>hasg t nv (hs.els' t m) (he t m) hnv hnp)⟩
theorem bodyq (hasg:∀ (s:Stm) (nv:Nat),OkStm s→OkSt c.sh nv s→nv≤1000→c.np≤nv→s.kind≠1→s.kind≠2→AsgQ c nv s) {l:List Stm} {nv:Nat} (hnv:nv≤1000) (hnp:c.np≤nv) (hl:l.length≤LIM) (hs:∀ s∈l,OkStm s∧OkAs s) (hn:nAsg l≤1000000000) (hok:∀ s∈l,OkSt c.sh nv s∧OkTs nv s):BodyQ c nv l:=by
 have hm:=fun t (m:t∈l)=>Nat.le_trans (nAsg_mem m) hn
 exact body_list hnv hl (fun s m=>⟨(hs s m).1,(hs s m).2,(hok s m).2⟩) hn (fun s m=>(stmq hasg s (hs s m).1 (hs s m).2 (hm s m) nv hnv hnp (hok s m).1 (hok s m).2).1) (fun s m=>(stmq hasg s (hs s m).1 (hs s m).2 (hm s m) nv hnv hnp (hok s m).1 (hok s m).2).2) (fun s m=>hasg s nv (hs s m).1 (hok s m).1 hnv hnp)
end Y
end Wp
end AM
end Go.Proofs.Ytimfbnojmdnlnaa
end
section
namespace Go.Proofs.Ytimfbnojmdnlnaa
namespace AM
namespace Wp
namespace Y
variable {U:St} {T:Lev} {B1:List (List V)} {B0:St} {L:Nat} {c:Mc} {x:List Int} {st:Int} {rows:List (List Int)} {ins:List Ins} {evs:List Ev}
theorem getBox_hi {R:St} {k i:Nat}:∀ {U:St},k < U.length→getBox (U++R) (R.length+k) i=getBox U k i
 | T::U,h=>by
  simp only [List.cons_append,getBox,List.length_append]
  by_cases hk:k=U.length
  ·rw [if_pos (by omega),if_pos hk]
  ·rw [if_neg (by omega),if_neg hk,getBox_hi (by simp at h; omega)]
theorem setBox_hi {R:St} {k i:Nat} {v:List V}:∀ {U:St},k < U.length→setBox (U++R) (R.length+k) i v=setBox U k i v++R
 | T::U,h=>by
  simp only [List.cons_append,setBox,List.length_append]
  by_cases hk:k=U.length
  ·rw [if_pos (by omega),if_pos hk]; rfl
  ·rw [if_neg (by omega),if_neg hk,setBox_hi (by simp at h; omega)]; rfl
theorem getBox_bh {k i:Nat} (hl:B0.length=L) (h:k < U.length):getBox (base U B1 B0) (L+1+k) i=getBox U k i:=by
 subst hl; exact getBox_hi (R:=⟨B1,none⟩::B0) h
theorem setBox_bh {k i:Nat} {v:List V} (hl:B0.length=L) (h:k < U.length):setBox (base U B1 B0) (L+1+k) i v=base (setBox U k i v) B1 B0:=by
 subst hl; exact setBox_hi (R:=⟨B1,none⟩::B0) h
theorem getBox_upc {B:List (List V)} {lp:Option Lp} {i n:Nat} (h:U.length=n) (hl:B0.length=L):getBox (⟨B,lp⟩::base U B1 B0) (n+(L+1)) i=bget B i:=by
 subst h; exact getBox_upb hl
theorem lt_up {k:Nat} (h:k < U.length):k < (T::U).length:=Nat.lt_succ_of_lt h
theorem setBox_cons {k i:Nat} {v:List V} (h:k < U.length):setBox (T::U) k i v=T::setBox U k i v:=by
 simp only [setBox]
 rw [if_neg (by omega)]
section
variable {E:Env} {ks:List KI} {F:Fr} {S:St} {Q:Ex→Fr→St→Prop} {cn:Cn} {d:Option Nat}
theorem CallvPQ {f:Nat} {xs cs:List V} {P:Out→St→Prop} (h:CallQ E (.fn f) (xs++cs) S P) (hs:(xs++cs).map strip=xs++cs) (ht:tames (xs++cs)=true) (hm:∀ o S',P o S'→backW F d (fun F S=>Wk E cn ks F S Q) (fun v S=>RunE E ks (.pan v) F S Q) o S'):Callv E (.func (.func f) cs) xs d cn ks F S Q:=by
 simp only [Callv,callvK,hs,ht,true_and]
 exact h.mono hm
end
def UseQ (c:Mc) (nv:Nat):Prop:=∀ (x:List Int) (st:Int) (rows:List (List Int)) (ins:List Ins) (evs:List Ev) (B1:List (List V)) (B0 U:St) (stm pos arr cell val:Int),x.length=nv→calmS U=true→MI c x st rows ins evs B1 B0 →
 CallQ theEnv (.fn 92) [.int .i64 stm, .int .i64 pos, .int .i64 arr, .int .i64 cell, .int .i64 val, .ptr c.L 1 0, .ptr c.L c.vi 0] (base U B1 B0) (fun o S'=>o=.ret (.tup [])∧∃ B0',S'=base U B1 B0'∧MI c x st rows ins (evs++[⟨⟨stm,x.drop c.np⟩,pos,arr,cell,val⟩]) B1 B0')
def WrQ (c:Mc):Prop:=∀ (ins ins':List Ins) (evs:List Ev) (B0:St) (i:Nat) (r r':List Int),r≠[]→getBox B0 0 i=some (ints r)→c.J ins evs B0→c.J ins' evs (setBox B0 0 i (ints r'))
def ExprE (c:Mc) (x:List Int) (st:Int) (rows:List (List Int)) (ins:List Ins) (evs:List Ev) (B1:List (List V)) (U:St) (k ip:Nat) (r:Option Int×Int×List Ev):Out→St→Prop:=fun o S'=>∃ B0',S'=base (setBox U k ip [.int .i64 r.2.1]) B1 B0'∧o=outN 6 r.1∧MI c x st rows ins (evs++r.2.2) B1 B0'
theorem exprE_mk {k ip:Nat} {q:Int} {v:Option Int} {l:List Ev} {o:Out} {B0':St} (h1:o=outN 6 v) (h2:MI c x st rows ins (evs++l) B1 B0'):ExprE c x st rows ins evs B1 U k ip (v,q,l) o (base (setBox U k ip [.int .i64 q]) B1 B0'):=⟨B0',rfl,h1,h2⟩
theorem expr_runE {nv:Nat} (hnv:nv≤LIM) (hd:c.dry=false) (huse:UseQ c nv) (stm:Int):∀ {e:Exp},OkX c.sh nv e→OkExp e→∀ {x:List Int} {ins:List Ins} {evs:List Ev} {B1:List (List V)} {B0 U:St} {k ip:Nat} {q:Int},x.length=nv→MI c x st rows ins evs B1 B0→calmS U=true→k < U.length→getBox U k ip=some [.int .i64 q] →
  CallQ theEnv (.fn 148) [.ptr c.L c.mi 0, .agg (encExp e), .int .i64 stm, .ptr (c.L+1+k) ip 0] (base U B1 B0) (ExprE c x st rows ins evs B1 U k ip (exprT rows c.sh x ⟨stm,x.drop c.np⟩ e q)):=by
 intro e he
 induction he with
 | @num e h =>
  intro ho x ins evs B1 B0 U k ip q hx hM hU hk hq
  refine CallQ.fn rfl rfl rfl ?_
  rw [exprT_eq]
  simp only [a148,c148,go_sem,simprocAttr,h,at1_Exp]
  have:=exprE_mk (c:=c) (x:=x) (st:=st) (rows:=rows) (ins:=ins) (evs:=evs) (U:=U) (k:=k) (ip:=ip) (q:=q) (v:=some e.k) (l:=[]) (B1:=B1) (B0':=B0) rfl (by simpa using hM)
  rw [setBox_self hq] at this
  exact this
 | @aff e h hl =>
  intro ho x ins evs B1 B0 U k ip q hx hM hU hk hq
  subst hx
  obtain ⟨xv,hm,hxb⟩:=hM.m
  have hat:=at_runU (S:=⟨[encExp e],none⟩::base U B1 B0) (L:=c.L) (by rw [getBox_up1 hM.l]; exact hm) (hxb.s (U:=⟨[encExp e],none⟩::U) hM.l) hl hnv
  refine CallQ.fn rfl rfl rfl ?_
  rw [exprT_eq]
  simp only [a148,c148,go_sem,simprocAttr,h]
  rw [CallP hat low0_ptr rfl]
  simp only [go_sem,simprocAttr,(wrap_ok _).call]
  have:=exprE_mk (c:=c) (x:=x) (st:=st) (rows:=rows) (ins:=ins) (evs:=evs) (U:=U) (k:=k) (ip:=ip) (q:=q) (v:=some (wrapV (linAt e.l x))) (l:=[]) (B1:=B1) (B0':=B0) rfl (by simpa using hM)
  rw [setBox_self hq] at this
  exact this
 | @read e h hr =>
  intro ho x ins evs B1 B0 U k ip q hx hM hU hk hq
  subst hx
  obtain ⟨a,s,ha,hs,hl,hc⟩:=hr
  refine CallQ.fn rfl rfl rfl ?_
  rw [exprT_eq]
  have hR:=hM.l
  have g1:∀ (T:Lev) (U:St),k < U.length→getBox (T::base U B1 B0) (c.L+1+k) ip=getBox U k ip:=fun T U hk=>by
   rw [← base_up,getBox_bh hR (lt_up hk)]
   simp only [getBox]; rw [if_neg (by omega)]
  have g2:∀ (T:Lev) (v:List V),setBox (T::base U B1 B0) (c.L+1+k) ip v=T::base (setBox U k ip v) B1 B0:=fun T v=>by
   rw [← base_up,setBox_bh hR (lt_up hk),setBox_cons hk]; rfl
  simp only [a148,c148,go_sem,simprocAttr,h,g1,g2,hk,hq]
  have hq1:getBox (setBox U k ip [.int .i64 (wi (q+1))]) k ip=some [.int .i64 (wi (q+1))]:=getBox_set (dz_def (by intro c hc; simp at hc; subst hc; rfl)) hq
  have hk1:k < (setBox U k ip [.int .i64 (wi (q+1))]).length:=by rw [len_setBox]; exact hk
  have hw:IntKind.i64.wrap (q+1)=wi (q+1):=rfl
  rw [hw]
  have hU1:calmS (setBox U k ip [.int .i64 (wi (q+1))])=true:=calmS_set rfl hU
  have hfin:∀ {v:Option Int} {l:List Ev} {B0':St},MI c x st rows ins (evs++l) B1 B0'→ExprE c x st rows ins evs B1 U k ip (v,wi (q+1),l) (outN 6 v) (base (setBox U k ip [.int .i64 (wi (q+1))]) B1 B0'):=fun h=>exprE_mk rfl h
  have hl1:U.length=(setBox U k ip [.int .i64 (wi (q+1))]).length:=len_setBox.symm
  revert hq1 hk1 hU1 hfin hl1
  generalize wi (q+1)=q1
  generalize setBox U k ip [.int .i64 q1]=U1
  intro hq1 hk1 hU1 hfin hl1
  obtain ⟨xv,hm,hxb⟩:=hM.m
  have hcell:=cell_runU (S:=⟨[encExp e],none⟩::base U1 B1 B0) (L:=c.L) (ho.r') (by rw [getBox_up1 hR]; exact hm) (hxb.s (U:=⟨[encExp e],none⟩::U1) hR) hnv ha hs hl hc
  simp only [go_sem,simprocAttr,g1,hk1,hq1,hR,hl1]
  rw [CallP hcell low0_ptr rfl]
  have e1:e.r.a.toNat=a:=by omega
  simp only [e1,hs,Option.elim]
  cases hcv:cellV x e.r.subs s.sizes 0 with
  | none =>
   simp only [outN,go_sem,simprocAttr]
   exact ⟨rfl,hfin (by simpa using hM)⟩
  | some cc =>
   obtain ⟨hMr,hfit⟩:=hM.r hd
   obtain ⟨row,kk,y,h1,rfl,h3,h4⟩:=hfit.rd ha hs hl hcv
   have hS1:MemS (base U1 B1 B0) c.mv rows:=hMr.s
   obtain ⟨oi,i,r1,r2,r3,r4,_⟩:=hS1.rd h1 h3
   have hcu:=huse x st rows ins evs B1 B0 (⟨[encExp e],none⟩::U1) stm q1 a kk y rfl (by simp only [go_sem,simprocAttr,hU1]) hM
   rw [base_up] at hcu
   unfold Mc.cells machU Mc.uv at hm
   simp only [outN,go_sem,simprocAttr,hR,hl1,hm,hS1.st,hS1.tm,ha,r1,r2,r3,r4]
   refine CallvPQ hcu rfl rfl ?_
   rintro o S' ⟨rfl,B0',rfl,hM'⟩
   rw [base_up]
   simp only [go_sem,simprocAttr,h1,Option.bind_some,Int.toNat_natCast,h3]
   exact hfin hM'
 | @bin e p1 p2 h1 h2 ha hp1 hp2 ih1 ih2 =>
  intro ho x ins evs B1 B0 U k ip q hx hM hU hk hq
  have n0:e.op≠0:=by omega
  have n1:e.op≠1:=by omega
  have n2:e.op≠2:=by omega
  have o1:OkExp p1:=ho.s' p1 (by rw [ha]; simp)
  have o2:OkExp p2:=ho.s' p2 (by rw [ha]; simp)
  have hset:∀ q1,getBox (setBox U k ip [.int .i64 q1]) k ip=some [.int .i64 q1]:=fun q1=>getBox_set (dz_def (by intro c hc; simp at hc; subst hc; rfl)) hq
  have hUs:∀ q1,calmS (⟨[encExp e],none⟩::setBox U k ip [.int .i64 q1])=true:=fun q1=>by
   have:calmS (setBox U k ip [.int .i64 q1])=true:=calmS_set rfl hU
   simp only [go_sem,simprocAttr,this]
  have hup:∀ {T:Lev} {U:St} {w:List V},k < U.length→getBox U k ip=some w→getBox (T::U) k ip=some w:=fun hk h=>by
   simp only [getBox]; rw [if_neg (by omega)]; exact h
  refine CallQ.fn rfl rfl rfl ?_
  rw [exprT_eq]
  simp only [a148,c148,go_sem,simprocAttr,n0,n1,n2,ha,exprsT]
  refine CallPQ (ih1 o1 (U:=⟨[encExp e],none⟩::U) hx hM (by simp only [go_sem,simprocAttr,hU]) (lt_up hk) (hup hk hq)) low0_ptr rfl ?_
  rintro o S' ⟨B0',rfl,rfl,hM1⟩
  rw [setBox_cons hk,base_up]
  revert hM1
  generalize exprT rows c.sh x ⟨stm,x.drop c.np⟩ p1 q=t1
  obtain ⟨v1,q1,l1⟩:=t1
  intro hM1
  cases v1 with
  | none =>
   simp only [outN,go_sem,simprocAttr,bin2]
   exact ⟨rfl,exprE_mk rfl hM1⟩
  | some v1 =>
   have hk1:k < (setBox U k ip [.int .i64 q1]).length:=by rw [len_setBox]; exact hk
   have hR0:=hM.l
   have hR1:=hM1.l
   simp only [outN,go_sem,simprocAttr,ha,hR0,hR1,getBox_upc]
   refine CallPQ (ih2 o2 (U:=⟨[encExp e],none⟩::setBox U k ip [.int .i64 q1]) hx hM1 (hUs q1) (lt_up hk1) (hup hk1 (hset q1))) low0_ptr rfl ?_
   rintro o S' ⟨B0'',rfl,rfl,hM2⟩
   rw [setBox_cons hk1,base_up,setBox_setBox]
   revert hM2
   generalize exprT rows c.sh x ⟨stm,x.drop c.np⟩ p2 q1=t2
   obtain ⟨v2,q2,l2⟩:=t2
   intro hM2
   simp only [List.append_assoc] at hM2
   cases v2 with
   | none =>
    simp only [outN,go_sem,simprocAttr,bin2]
    exact ⟨rfl,exprE_mk rfl (by simpa using hM2)⟩
   | some v2 =>
    have hR2:=hM2.l
    obtain ⟨xv,hm,hxb⟩:=hM2.m
    unfold Mc.cells machU Mc.uv at hm
    simp only [outN,go_sem,simprocAttr,bin2,hR0,hR2,getBox_upc,hm,ax_ops h1 h2]
    rw [(opF_ok e.op v1 v2).callv0 rfl]
    simp only [go_sem,simprocAttr]
    exact exprE_mk rfl (by simpa using hM2)
theorem asg_wet {nv:Nat} (hnv:nv≤LIM) (hd:c.dry=false) (huse:UseQ c nv) (hwr:WrQ c) {s:Stm} (hs:OkStm s) (he:OkX c.sh nv s.value) (ht:OkRf c.sh nv s.target):AsgQ c nv s:=by
 intro x num st rows ins evs B1 B0 U hx hU h
 have hR0:=h.l
 generalize htot:assignT c.sh c.np c.dry s x num st rows=tot
 unfold assignT at htot
 refine CallQ.fn rfl rfl rfl ?_
 simp only [a125,c125,go_sem,simprocAttr,hR0]
 refine CallPQ (step_run (U:=⟨[encStm s],none⟩::U) h) low0_ptr rfl ?_
 rintro o S' ⟨B1',B0',rfl,hend⟩
 rw [base_up]
 by_cases h65:st=65536
 ·subst h65
  obtain ⟨rfl,hp,hpl⟩:=(hend:o=.pan (ended 3)∧PI B1'∧B0'.length=c.L∧calmS B0'=true)
  simp only [go_sem,simprocAttr,hpl]
  rw [step_pan] at htot
  exact ⟨rfl,endQ_pan (e:=3) (by rw [← htot]) hp hpl⟩
 ·have hend':o=.ret (.tup [])∧MI c x (wi (st+1)) rows ins evs B1' B0':=by
   have e3:stepT st rows=⟨.ok (wi (st+1)) rows,[],[]⟩:=by simp [stepT,stepV,h65]
   rw [e3] at hend
   simpa [EndP] using hend
  obtain ⟨rfl,h'⟩:=hend'
  rw [step_ok h65,if_neg (by rw [hd]; decide)] at htot
  have hR:=h'.l
  obtain ⟨xv,hm,hxb⟩:=h'.m
  unfold Mc.cells machU Mc.uv at hm
  rw [hd] at hm
  have hU':∀ w:List V,calmC w=true→calmS (⟨[encStm s,w],none⟩::U)=true:=fun w hw=>by simp only [go_sem,simprocAttr,hU,hw]
  have hq0:getBox (⟨[encStm s,[.int .i64 0]],none⟩::U) U.length 1=some [.int .i64 0]:=by simp only [go_sem,simprocAttr]
  have hex:=expr_runE (U:=⟨[encStm s,[.int .i64 0]],none⟩::U) hnv hd huse num he hs.value' hx h' (hU' _ rfl) (show U.length < _ by simp) hq0
  rw [base_up,show c.L+1+U.length=U.length+(c.L+1) by omega] at hex
  simp only [go_sem,simprocAttr,hR,hm]
  refine CallPQ hex low0_ptr rfl ?_
  rintro o S' ⟨B0'',rfl,rfl,hM1⟩
  revert hM1 htot
  generalize exprT rows c.sh x ⟨num,x.drop c.np⟩ s.value 0=t1
  obtain ⟨v1,q1,l1⟩:=t1
  intro htot hM1
  have e5:setBox (⟨[encStm s,[.int .i64 0]],none⟩::U) U.length 1 [.int .i64 q1]=⟨[encStm s,[.int .i64 q1]],none⟩::U:=by simp only [go_sem,simprocAttr]
  simp only
  rw [e5,base_up]
  have hR1:=hM1.l
  cases v1 with
  | none =>
   simp only at htot
   simp only [outN,go_sem,simprocAttr,hR1]
   exact ⟨rfl,endQ_pan (by rw [← htot]) hM1.p ⟨hM1.l,hM1.c0⟩⟩
  | some v =>
   subst hx
   obtain ⟨a,sp,ha,hsp,hl,hc⟩:=ht
   obtain ⟨xv,hm,hxb⟩:=hM1.m
   have hcell:=cell_runU (S:=⟨[encStm s,[.int .i64 q1]],none⟩::base U B1' B0'') (L:=c.L) hs.target' (by rw [getBox_up1 hR1]; exact hm) (hxb.s (U:=⟨[encStm s,[.int .i64 q1]],none⟩::U) hR1) hnv ha hsp hl hc
   have e1:s.target.a.toNat=a:=by omega
   simp only [e1,hsp,Option.elim] at htot
   simp only [outN,go_sem,simprocAttr,hR1]
   rw [CallP hcell low0_ptr rfl]
   cases hcv:cellV x s.target.subs sp.sizes 0 with
   | none =>
    rw [hcv] at htot
    simp only [outN,go_sem,simprocAttr,hR1]
    exact ⟨rfl,endQ_pan (by rw [← htot]) hM1.p ⟨hM1.l,hM1.c0⟩⟩
   | some kc =>
    rw [hcv] at htot
    obtain ⟨hMr,hfit⟩:=hM1.r hd
    obtain ⟨row,k,y,h3,rfl,h4,_⟩:=hfit.rd ha hsp hl hcv
    have hlk:=(List.getElem?_eq_some_iff.1 h4).1
    obtain ⟨oi,i,w1,w2,w3,w4,w5⟩:=hMr.wr v h3 h4
    have hst:∀ y,setAt (ints row) k [.int .i64 y]=ints (row.set k y):=fun y=>ints_setAt hlk
    have hle:k+1≤(ints row).length:=by rw [ints_len]; exact hlk
    have hrne:row≠[]:=by rintro rfl; simp at hlk
    have hn:MI c x (wi (st+1)) (writeV rows a k v) (ins++[⟨num,x.drop c.np⟩]) (evs++l1) B1' (setBox B0'' 0 i (ints (row.set k v))) :=
     ⟨by rw [len_setBox]; exact hM1.l,hM1.m,hM1.u,hM1.v,fun _=>⟨w5,hfit.wr⟩,hM1.p,hM1.c1,calmS_set (calm_ints _) hM1.c0,hM1.cm,hwr _ _ _ _ _ _ _ hrne w4 hM1.j,hM1.uk⟩
    have hcu:=huse x _ _ _ _ B1' _ (⟨[encStm s,[.int .i64 q1]],none⟩::U) num 0 a k v rfl (hU' _ rfl) hn
    rw [base_up] at hcu
    have hp0:0 < B0''.length:=getBox_lt w4
    have hp1:0 < c.L:=by rw [← hR1]; exact hp0
    have q1':=hMr.s (U:=U) (B1:=B1')
    unfold Mc.cells machU Mc.uv at hm
    simp only [outN,go_sem,simprocAttr,hR1,hp0,hp1,hm,q1'.st,q1'.tm,ha,w1,w2,w3,w4,hst,hle]
    refine CallvPQ hcu rfl rfl ?_
    rintro o S' ⟨rfl,B3,rfl,hM'⟩
    rw [base_up]
    have hR3:=hM'.l
    simp only [go_sem,simprocAttr,hR3]
    refine endQ_ok (st:=wi (st+1)) (rows:=writeV rows a k v) ?_ ?_
    ·rw [← htot]; simp
    ·rw [← htot]
     simpa [ha] using hM'
end Y
end Wp
end AM
end Go.Proofs.Ytimfbnojmdnlnaa
end
