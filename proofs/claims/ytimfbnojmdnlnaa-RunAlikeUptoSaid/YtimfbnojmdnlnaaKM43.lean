/- The reference's machine: its boxes; step, cell; Blocks of the abstract machine that take a slice out of a box and append to it; The reference's machine: its instances and its events grow; The reference's machine: value; The reference's machine: assign; The reference's machine: how long its lists grow; runs one behind the other. -/
import Derived.Test.YtimfbnojmdnlnaaKShC
import Derived.Test.YtimfbnojmdnlnaaKM34
set_option linter.all false
set_option maxRecDepth 100000
section
namespace Go.Proofs.Ytimfbnojmdnlnaa
namespace AM
namespace Wp
def rb (U:St) (B:List (List V)):St:=U++[⟨B,none⟩]
variable {U:St} {T:Lev} {B A:List (List V)} {lp:Option Lp}
structure Rc where
 p:Prg
 sh:List Shape
 b:Bool
 mv:V
 dry:Bool
 mi:Nat
def rcw (c:Rc) (st e:Int) (w1 w2:V):List V :=
 [.slice (nk c.p.pn) (c.p.params.map encS), .slice (nk c.p.an) (c.p.arrays.map encArr), .slice (nk c.p.bn) (c.p.body.map encStm), .slice (nk c.b) (c.sh.map fun s=>encRow s.sizes),c.mv, .bool c.dry, .int .i64 st, .int .i64 0, .int .i64 e,w1,w2]
def rcells (c:Rc) (st e:Int) (ins:List Ins) (evs:List Ev):List V:=rcw c st e (grown 94 (evs.map encEv)) (grown 91 (ins.map encIns))
theorem dz_rcells {c:Rc} {st e:Int} {ins:List Ins} {evs:List Ev}:dz (some (rcells c st e ins evs))=some (rcells c st e ins evs):=rfl
structure RI (c:Rc) (st:Int) (rows:List (List Int)) (e:Int) (ins:List Ins) (evs:List Ev) (B:List (List V)):Prop where
 m:bget B c.mi=some (rcells c st e ins evs)
 r:c.dry=false→MB [⟨B,none⟩] c.mv rows∧Fit c.sh rows
 b:bare c.mv=true∧barest B=true
theorem bare_grown {e:Nat} {xs:List (List V)}:bare (grown e xs)=true:=by cases xs<;>rfl
theorem bareL_rcells {c:Rc} {st e:Int} {ins:List Ins} {evs:List Ev} (h:bare c.mv=true):bareL (rcells c st e ins evs)=true:=by
 have h1:∀ {b:Bool} {l:List (List V)},bare (.slice (nk b) l)=true:=fun {b l}=>by cases b<;>rfl
 have h2:∀ {k:IntKind} {n:Int},bare (.int k n)=true:=rfl
 have h3:∀ {b:Bool},bare (.bool b)=true:=rfl
 simp only [rcells,rcw,bareL,h1,h2,h3,bare_grown,h,Bool.and_self]
variable {c:Rc} {st e:Int} {rows:List (List Int)} {ins:List Ins} {evs:List Ev}
theorem MB.rset {mv:V} {w:List V} {mi:Nat} {st0 e0:Int} {ins0:List Ins} {evs0:List Ev} (h:MB [⟨B,none⟩] mv rows) (hm:bget B mi=some (rcells c st0 e0 ins0 evs0)):MB [⟨bset B mi w,none⟩] mv rows:=by
 rcases h with h | ⟨oi,cs,h1,h2,h3,h4,h5⟩
 ·exact .inl h
 ·rw [getBox_one] at h2
  refine .inr ⟨oi,cs,h1,?_,h3,fun j r hr=>?_,h5⟩
  ·rw [getBox_one,bget_ne,h2]
   rintro rfl
   rw [hm] at h2
   have h6:=Option.some.inj h2
   have h7:cs[5]?=some (.bool c.dry):=by rw [← h6]; rfl
   have h8:∃ r,rows[5]?=some r:=⟨rows[5]'(by rw [← h3, ← h6]; show 5 < 11; decide),List.getElem?_eq_getElem _⟩
   obtain ⟨r,hr⟩:=h8
   rcases h4 5 r hr with ⟨_,h⟩ | ⟨i,h,_⟩<;>(rw [h7] at h; cases h)
  ·rcases h4 j r hr with h | ⟨i,h6,h7⟩
   ·exact .inl h
   ·refine .inr ⟨i,h6,?_⟩
    rw [getBox_one] at h7
    rw [getBox_one,bget_ne,h7]
    rintro rfl
    rw [hm] at h7
    have h8:=congrArg List.head? (Option.some.inj h7)
    cases r<;>simp [ints,rcells,rcw] at h8
theorem RI.set (h:RI c st rows e ins evs B) (st' e':Int) (ins':List Ins) (evs':List Ev):RI c st' rows e' ins' evs' (bset B c.mi (rcells c st' e' ins' evs')) :=
 ⟨bget_set h.m dz_rcells,fun hd=>⟨(h.r hd).1.rset h.m,(h.r hd).2⟩,h.b.1,barest_set (barest_one (bareL_rcells h.b.1)) h.b.2⟩
def stepB (st:Int):Bool:=!decide (st=65536)
end Wp
end AM
end Go.Proofs.Ytimfbnojmdnlnaa
end
section
namespace Go.Proofs.Ytimfbnojmdnlnaa
namespace AM
namespace Wp
section
variable {E:Env} {F F1:Fr} {S S1 S0:St} {Q:Ex→Fr→St→Prop} {os:List AOper} {bs:List Blk} {ks:List KI} {cE:CE} {C:Option (St×St)} {D:Option (Nat×Nat×Option Nat)}
theorem EvbQ.chn (h:∃ K, ∀ j,K≤j→chnB (callN E j) os F S=some (F1,S1)) (k:EvbQ E bs F1 S1 Q):EvbQ E (.chn os::bs) F S Q:=by
 obtain ⟨K,hK⟩:=h
 obtain ⟨r,⟨K2,h8⟩,h9⟩:=k
 refine ⟨r,⟨max K K2,fun j hj=>?_⟩,h9⟩
 simp only [blks,hK j (by omega)]
 exact h8 j (by omega)
def plainOp:AOp→Bool
 | .mv true _=>false
 | .al _=>false
 | .ld true _ _ _=>false
 | .app ..=>false
 | .st ..=>false
 | .call ..=>false
 | .callw ..=>false
 | .rowr ..=>false
 | .appr ..=>false
 | _=>true
end
end Wp
end AM
end Go.Proofs.Ytimfbnojmdnlnaa
end
section
namespace Go.Proofs.Ytimfbnojmdnlnaa
namespace AM
namespace Wp
section
variable {E:Env} {F:Fr} {U:St} {A B:List (List V)} {Q:Ex→Fr→St→Prop} {bs:List Blk} {ks:List KI} {c:Rc} {st e:Int} {ins:List Ins} {evs:List Ev}
end
end Wp
end AM
end Go.Proofs.Ytimfbnojmdnlnaa
end
section
namespace Go.Proofs.Ytimfbnojmdnlnaa
namespace AM
namespace Wp
def setU:St→Nat→Nat→List V→St
 | [],_,_,_=>[]
 | L::S,l,i,cs=>if l=S.length+1 then { L with bs:=L.bs.set i cs }::S else L::setU S l i cs
def ValQ (c:Rc) (U:St) (lp ip:Nat) (st:Int) (rows:List (List Int)) (ins:List Ins) (evs:List Ev) (r:Option Int×Int×List Ev):Out→St→Prop:=fun o S'=>∃ B',S'=rb (setU U lp ip [.int .i64 r.2.1]) B'∧RI c st rows (if r.1.isSome=true then 0 else 6) ins (evs++r.2.2) B'∧∃ n:Int,o=.ret (.int .i64 n)∧∀ v,r.1=some v→n=v
variable {U:St} {T:Lev} {B A:List (List V)} {c:Rc} {st:Int} {rows:List (List Int)} {ins:List Ins} {evs:List Ev}
end Wp
end AM
end Go.Proofs.Ytimfbnojmdnlnaa
end
section
namespace Go.Proofs.Ytimfbnojmdnlnaa
namespace AM
namespace Wp
variable {U:St} {T:Lev} {B A:List (List V)} {c:Rc} {st:Int} {rows:List (List Int)} {ins:List Ins} {evs:List Ev}
def EndT (c:Rc) (t:Tr) (ins:List Ins) (evs:List Ev) (B:List (List V)):Prop:=match t.r with
 | .ok st rows=>RI c st rows 0 (ins++t.i) (evs++t.l) B
 | .pan e=>∃ st rows,e≠0∧RI c st rows e (ins++t.i) (evs++t.l) B
def TrQ (c:Rc) (U:St) (ins:List Ins) (evs:List Ev) (t:Tr):Out→St→Prop:=fun o S'=>∃ B',S'=rb U B'∧o=.ret (.tup [])∧EndT c t ins evs B'
end Wp
end AM
end Go.Proofs.Ytimfbnojmdnlnaa
end
section
namespace Go.Proofs.Ytimfbnojmdnlnaa
namespace AM
namespace Wp
def tapp (i:List Ins) (l:List Ev) (t:Tr):Tr:=⟨t.r,i++t.i,l++t.l⟩
theorem tapp_nil (t:Tr):tapp [] [] t=t:=rfl
theorem tapp_ok {i:List Ins} {l:List Ev} {t:Tr} {K:Int→List (List Int)→Tr} {st:Int} {rows:List (List Int)} (h:t.r=.ok st rows):tapp i l (t.bind K)=tapp (i++t.i) (l++t.l) (K st rows):=by
 unfold Tr.bind; rw [h]; simp [tapp]
theorem tapp_pan {i:List Ins} {l:List Ev} {t:Tr} {K:Int→List (List Int)→Tr} {e:Int} (h:t.r=.pan e):tapp i l (t.bind K)=⟨.pan e,i++t.i,l++t.l⟩:=by
 unfold Tr.bind; rw [h]; rfl
theorem step_ok {st:Int} {rows:List (List Int)} {K:Int→List (List Int)→Tr} (h:¬ st=65536):(stepT st rows).bind K=K (wi (st+1)) rows:=by
 have e3:stepT st rows=⟨.ok (wi (st+1)) rows,[],[]⟩:=by simp [stepT,stepV,h]
 rw [e3]; rfl
theorem step_pan {rows:List (List Int)} {K:Int→List (List Int)→Tr}:(stepT 65536 rows).bind K=⟨.pan 3,[],[]⟩:=rfl
def Bnd (st:Int) (ins:List Ins) (evs:List Ev):Prop:=0≤st∧st≤65536∧(ins.length:Int)≤st∧(evs.length:Int)≤65*st
def TB (st:Int) (t:Tr):Prop:=∀ st' rows',t.r=.ok st' rows'→st≤st'∧st'≤65536∧(t.i.length:Int)≤st' - st∧(t.l.length:Int)≤65*(st' - st)
theorem Bnd.app {st st':Int} {rows':List (List Int)} {ins:List Ins} {evs:List Ev} {t:Tr} (h:Bnd st ins evs) (ht:TB st t) (hr:t.r=.ok st' rows'):Bnd st' (ins++t.i) (evs++t.l):=by
 obtain ⟨h1,h2,h3,h4⟩:=h
 obtain ⟨k1,k2,k3,k4⟩:=ht _ _ hr
 refine ⟨by omega,k2,?_,?_⟩
 ·rw [List.length_append]; omega
 ·rw [List.length_append]; omega
theorem TB.bind {st:Int} {t:Tr} {K:Int→List (List Int)→Tr} (h:TB st t) (h0:0≤st) (hk:∀ st' rows',0≤st'→st'≤65536→TB st' (K st' rows')):TB st (t.bind K):=by
 intro st2 rows2 h2
 unfold Tr.bind at h2 ⊢
 cases hr:t.r with
 | pan e=>rw [hr] at h2; cases h2
 | ok st' rows' =>
  rw [hr] at h2
  obtain ⟨k1,k2,k3,k4⟩:=h _ _ hr
  obtain ⟨m1,m2,m3,m4⟩:=hk st' rows' (by omega) k2 _ _ h2
  simp only [List.length_append]
  exact ⟨by omega,m2,by omega,by omega⟩
inductive OkCt:Stm→Prop
 | loop {s:Stm} (h:s.kind=1) (hb:∀ t∈s.body,OkCt t):OkCt s
 | test {s:Stm} (h:s.kind=2) (hb:∀ t∈s.body,OkCt t) (he:∀ t∈s.els,OkCt t):OkCt s
 | asg {s:Stm} (h1:s.kind≠1) (h2:s.kind≠2) (hc:cntE s.value≤64):OkCt s
end Wp
end AM
end Go.Proofs.Ytimfbnojmdnlnaa
end
