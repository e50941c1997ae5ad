/- The reference's Reads and Infos (as in SdB, by themselves). -/
import Derived.Test.YtimfbnojmdnlnaaGreatKSgD
import Derived.Test.YtimfbnojmdnlnaaGreatKM19
set_option linter.all false
set_option maxRecDepth 100000
namespace Go.Proofs.YtimfbnojmdnlnaaGreat
namespace AM
namespace Wp
namespace I
theorem wt_part {α:Type} {enc:α→List V} {l:List α} {y:α} (h:y∈l):wtL (enc y)≤wtR (l.map enc):=wtR_mem (List.mem_map_of_mem (f:=enc) h)
theorem wl_Exp (x:Exp):wtL (encExp x)=3+wtL (encLin x.l)+wtL (encRef x.r)+wtR (x.args.map encExp):=by
 cases x
 simp only [encExp,wtL_append,wtL,wt,encExps_map]; omega
theorem wl_Stm (x:Stm):wtL (encStm x)=4+wtL (encBound x.low)+wtL (encBound x.high)+wtL (encPSet x.test)+wtL (encRef x.target)+wtL (encExp x.value)+(1+wtR (x.body.map encStm))+(1+wtR (x.els.map encStm)):=by
 cases x
 simp only [encStm,wtL_append,wtL,wt,encStms_map]; omega
theorem app_gg {e n b:Nat} {xs ys:List (List V)} (h:allLen n ys=true) (h1:xs.length+ys.length≤1000000000) (h2:b≤1000):appO e n b (grown e xs) (grown e ys)=some (grown e (xs++ys)):=by
 have h3:(xs.length+ys.length)*b≤140737488355328:=by
  calc (xs.length+ys.length)*b≤1000000000*1000:=Nat.mul_le_mul h1 h2
   _≤_:=by decide
 cases ys with
 | nil=>exact appO_grown (k:=.nil) h h3 (by omega)
 | cons y ys=>exact appO_grown (k:=.own e) h h3 (by omega)
theorem wtR_take {α:Type} {enc:α→List V}:∀ {l:List α} {k:Nat},wtR ((l.take k).map enc)≤wtR (l.map enc)
 | [],k=>by simp
 | x::l,0=>by simp [wtR]
 | x::l,k+1=>by
  have:=wtR_take (enc:=enc) (l:=l) (k:=k)
  simp only [List.take_succ_cons,List.map_cons,wtR]; omega
structure Info where
 path:List Int
 nb:Bool
 names:List ByteArray
 s:Stm
 rd:List Ref
def encInfo (x:Info):List V:=V.slice .shut (x.path.map encI)::V.slice (nk x.nb) (x.names.map encS)::(encStm x.s++[V.slice (nk x.rd.isEmpty) (x.rd.map encRef)])
theorem lowL_append {n:Nat}:∀ {xs ys:List V},lowL n (xs++ys)=(lowL n xs&&lowL n ys)
 | [],ys=>by simp [lowL]
 | x::xs,ys=>by simp only [List.cons_append,lowL,lowL_append,Bool.and_assoc]
theorem setAt_last {a b:V} (s:Stm):setAt (encStm s++[a]) 19 [b]=encStm s++[b]:=by
 have h:=len_Stm s
 simp [setAt,List.take_append,h,List.drop_append,List.drop_eq_nil_of_le]
mutual
def rReads:Exp→List Ref
 | ⟨op,_,_,r,_,args⟩=>if op=2 then [r] else rReadss args
def rReadss:List Exp→List Ref
 | []=>[]
 | x::xs=>rReads x++rReadss xs
end
theorem rReadss_snoc {y:Exp}:∀ {xs:List Exp},rReadss (xs++[y])=rReadss xs++rReads y
 | []=>by simp [rReadss]
 | x::xs=>by simp only [List.cons_append,rReadss,rReadss_snoc,List.append_assoc]
mutual
theorem rreads_wt:∀ x,(rReads x).length≤wtL (encExp x)
 | ⟨op,k,l,r,n,args⟩=>by
  have:=rreads_wts args
  simp only [rReads,encExp,wtL_append,wtL,wt]
  split
  ·simp; omega
  ·omega
theorem rreads_wts:∀ xs,(rReadss xs).length≤wtR (encExps xs)
 | []=>by simp [rReadss]
 | x::xs=>by
  have:=rreads_wt x
  have:=rreads_wts xs
  simp only [rReadss,List.length_append,encExps,wtR]
  omega
end
theorem rreads_eq (x:Exp):rReads x=if x.op=2 then [x.r] else rReadss x.args:=by cases x; rw [rReads]
theorem rreads_ok:∀ x,OkExp x→wtL (encExp x)≤1000000000→Sp theEnv 89 [.agg (encExp x)] (grown 46 ((rReads x).map encRef)):=by
 refine Exp.ind fun x ih hx hs=>?_
 refine Sp.fn rfl rfl rfl sx sy fun S=>?_; simp only [a89,c89,go_sem,simprocAttr]
 rw [Run_if]
 simp only [go_sem,simprocAttr,rreads_eq x]
 split
 ·rename_i hop
  simp only [go_sem,simprocAttr,if_pos hop]
 ·rename_i hop
  refine Run_range x.args.length [13] [3] (fun k vs S'=>vs=[grown 46 ((rReadss (x.args.take k)).map encRef)]∧∃ B,S'=⟨encExp x::B,none⟩::S) hx.n' sx sx rfl rfl rfl rfl sx ⟨by simp only [go_sem,simprocAttr,List.take_zero,rReadss,List.map_nil],_,rfl⟩ ?_ ?_
  ·rintro k F _ hk ⟨hv,B,rfl⟩ hi hkept
   simp only [go_sem,simprocAttr] at hkept hv
   obtain ⟨y,hy⟩:∃ y,x.args[k]?=some y:=⟨x.args[k],List.getElem?_eq_getElem hk⟩
   have hm:=List.mem_of_getElem? hy
   rw [wl_Exp] at hs
   have hsy:=wt_part (enc:=encExp) hm
   have hc:=ih y hm (hx.s' y hm) (by omega)
   have h1:=rreads_wts (x.args.take (k+1))
   rw [encExps_map] at h1
   have h2:=wtR_take (enc:=encExp) (l:=x.args) (k:=k+1)
   rw [take_snoc' hy,rReadss_snoc] at h1
   rw [List.length_append] at h1
   rw [← take_snoc' hy] at h1
   rw [take_snoc' hy,rReadss_snoc,List.map_append]
   have ha:appO 46 2 32 (grown 46 ((rReadss (x.args.take k)).map encRef)) (grown 46 ((rReads y).map encRef))=some (grown 46 ((rReadss (x.args.take k)).map encRef++(rReads y).map encRef)):=app_gg (lens_Ref _) (by simp; omega) (by omega)
   simp only [go_sem,simprocAttr,hkept,hi,hv,iaO_map hy,hc.call,ha]
  ·rintro F _ ⟨hv,B,rfl⟩ hkept
   simp only [go_sem,simprocAttr] at hkept hv
   rw [List.take_length] at hv
   simp only [go_sem,simprocAttr,hkept,hv]
mutual
def infS (path:List Int) (nb:Bool) (names:List ByteArray) (i:Nat):Stm→List Info
 | s@⟨kind,name,_,_,_,_,_,_,value,_,body,_,els⟩ =>
  if kind=1 then infL (path++[(i:Int),0]) false (names++[name]) 0 body
  else if kind=2 then infL (path++[(i:Int),0]) nb names 0 body++infL (path++[(i:Int),1]) nb names 0 els
  else [⟨path++[(i:Int)],nb,names,s,rReads value⟩]
def infL (path:List Int) (nb:Bool) (names:List ByteArray) (i:Nat):List Stm→List Info
 | []=>[]
 | s::l=>infS path nb names i s++infL path nb names (i+1) l
end
theorem infS_eq (path:List Int) (nb:Bool) (names:List ByteArray) (i:Nat) (s:Stm):infS path nb names i s=if s.kind=1 then infL (path++[(i:Int),0]) false (names++[s.name]) 0 s.body
  else if s.kind=2 then infL (path++[(i:Int),0]) nb names 0 s.body++infL (path++[(i:Int),1]) nb names 0 s.els
  else [⟨path++[(i:Int)],nb,names,s,rReads s.value⟩]:=by
 cases s; rw [infS]
theorem infL_snoc {path:List Int} {nb:Bool} {names:List ByteArray} {s:Stm}:∀ {l:List Stm} {i:Nat},infL path nb names i (l++[s])=infL path nb names i l++infS path nb names (i+l.length) s
 | [],i=>by simp [infL]
 | x::l,i=>by
  simp only [List.cons_append,infL,infL_snoc,List.append_assoc,List.length_cons]
  rw [show i+1+l.length=i+(l.length+1) from by omega]
theorem infL_wt:∀ l:List Stm,(∀ s∈l, ∀ (path:List Int) (nb:Bool) (names:List ByteArray) (i:Nat),(infS path nb names i s).length≤wtL (encStm s))→∀ (path:List Int) (nb:Bool) (names:List ByteArray) (i:Nat),(infL path nb names i l).length≤wtR (l.map encStm)
 | [],_,path,nb,names,i=>by simp [infL]
 | s::l,h,path,nb,names,i=>by
  have h1:=h s (by simp) path nb names i
  have h2:=infL_wt l (fun y hy=>h y (List.mem_cons_of_mem _ hy)) path nb names (i+1)
  simp only [infL,List.length_append,List.map_cons,wtR]; omega
theorem infS_wt:∀ (s:Stm) (path:List Int) (nb:Bool) (names:List ByteArray) (i:Nat),(infS path nb names i s).length≤wtL (encStm s):=by
 refine Stm.ind fun x ihb ihe path nb names i=>?_
 have hb:=fun p b n=>infL_wt x.body ihb p b n 0
 have he:=fun p b n=>infL_wt x.els ihe p b n 0
 rw [infS_eq,wl_Stm]
 split
 ·have:=hb (path++[(i:Int),0]) false (names++[x.name]); omega
 ·split
  ·have h1:=hb (path++[(i:Int),0]) nb names
   have h2:=he (path++[(i:Int),1]) nb names
   rw [List.length_append]; omega
  ·simp; omega
theorem infL_len (l:List Stm) (path:List Int) (nb:Bool) (names:List ByteArray) (i:Nat):(infL path nb names i l).length≤wtR (l.map encStm):=infL_wt l (fun s _=>infS_wt s) path nb names i
theorem app_copy {e n b:Nat} {k:SK} {ys:List (List V)} (h:allLen n ys=true) (h1:ys.length≤1000000000) (h2:b≤1000):appO e n b (.slice (.own e) []) (.slice k ys)=some (.slice (.own e) ys):=by
 have h3:(([]:List (List V)).length+ys.length)*b≤140737488355328:=by
  simp only [List.length_nil,Nat.zero_add]
  calc ys.length*b≤1000000000*1000:=Nat.mul_le_mul h1 h2
   _≤_:=by decide
 have:=appO_own (e:=e) (k:=k) (xs:=[]) h h3 (by simp; omega)
 simpa using this
theorem app_Info {e b:Nat} {l:List Info} {x:Info} (h:l.length≤1000000000) (hb:b≤1000):appO e 22 b (grown e (l.map encInfo)) (.slice (.own e) [encInfo x])=some (grown e (l.map encInfo++[encInfo x])):=by
 refine appO_grown (by simp [allLen,encInfo,len_Stm]) ?_ (by simp; omega)
 simp only [List.length_map,List.length_singleton]
 calc (l.length+1)*b≤(1000000000+1)*1000:=Nat.mul_le_mul (by omega) hb
  _≤_:=by decide
theorem lens_Info (l:List Info):allLen 22 (l.map encInfo)=true:=by simp [allLen,encInfo,len_Stm]
def InfSpec (l:List Stm):Prop:=∀ (b pb nb:Bool) (path:List Int) (names:List ByteArray),path.length+2*wtR (l.map encStm)≤1000000000→names.length+wtR (l.map encStm)≤1000000000 →
 Sp theEnv 49 [.slice (nk b) (l.map encStm), .slice (nk pb) (path.map encI), .slice (nk nb) (names.map encS)] (grown 57 ((infL path nb names 0 l).map encInfo))
theorem inf_list {l:List Stm} (hl:l.length≤LIM) (hok:∀ s∈l,OkStm s) (hs:∀ s∈l,InfSpec s.body∧InfSpec s.els):InfSpec l:=by
 intro b pb nb path names hp hn
 refine Sp.fn rfl rfl rfl sx sy fun S=>?_; simp only [a49,c49,go_sem,simprocAttr]
 refine Run_range l.length [1,2,11] [7] (fun k vs S'=>vs=[grown 57 ((infL path nb names 0 (l.take k)).map encInfo)]∧∃ B,S'=⟨B,none⟩::S) hl sx sx rfl rfl rfl rfl sx ⟨by simp only [go_sem,simprocAttr,List.take_zero,infL,List.map_nil],_,rfl⟩ ?_ ?_
 ·rintro k F _ hk ⟨hv,B,rfl⟩ hi hkept
  simp only [go_sem,simprocAttr] at hkept hv
  obtain ⟨x,hx⟩:∃ y,l[k]?=some y:=⟨l[k],List.getElem?_eq_getElem hk⟩
  have hm:=List.mem_of_getElem? hx
  obtain ⟨hb,he⟩:=hs x hm
  have hxo:=hok x hm
  have hw:=wt_part (enc:=encStm) hm
  have hw':=hw
  rw [wl_Stm] at hw
  have hpath:path.length≤1000000000:=by omega
  have a1:=app_copy (e:=3) (b:=8) (k:=nk pb) (ys:=path.map encI) (lens_I _) (by simpa using hpath) (by decide)
  have a2:appO 3 1 8 (.slice (.own 3) (path.map encI)) (.slice (.own 3) [[V.int .i64 (k:Int)]])=some (.slice (.own 3) ((path++[(k:Int)]).map encI)):=by
   rw [List.map_append]; exact app1 rfl (by simpa using hpath) (by decide)
  have hnm:names.length≤1000000000:=by omega
  have b1:∀ j:Int,appO 3 1 8 (.slice (.own 3) ((path++[(k:Int)]).map encI)) (.slice (.own 3) [[V.int .i64 j]])=some (.slice (.own 3) ((path++[(k:Int),j]).map encI)):=fun j=>by
   have:=app1 (e:=3) (n:=1) (b:=8) (k:=.own 3) (xs:=(path++[(k:Int)]).map encI) (y:=[V.int .i64 j]) rfl (by simp; omega) (by decide)
   rw [this]
   simp [encI]
  have b0:=app_copy (e:=3) (b:=8) (k:=.shut) (ys:=(path++[(k:Int)]).map encI) (lens_I _) (by simp; omega) (by decide)
  have b2:=app_copy (e:=9) (b:=16) (k:=nk nb) (ys:=names.map encS) (lens_S _) (by simpa using hnm) (by decide)
  have b3:appO 9 1 16 (.slice (.own 9) (names.map encS)) (.slice (.own 9) [[V.str x.name]])=some (.slice (.own 9) ((names++[x.name]).map encS)):=by
   rw [List.map_append]; exact app1 rfl (by simpa using hnm) (by decide)
  have c1:Sp theEnv 49 [.slice (nk x.bn) (x.body.map encStm), .slice .shut ((path++[(k:Int),0]).map encI), .slice .shut ((names++[x.name]).map encS)] (grown 57 ((infL (path++[(k:Int),0]) false (names++[x.name]) 0 x.body).map encInfo)) :=
   hb x.bn false false _ _ (by simp; omega) (by simp; omega)
  have c2:Sp theEnv 49 [.slice (nk x.bn) (x.body.map encStm), .slice .shut ((path++[(k:Int),0]).map encI), .slice (nk nb) (names.map encS)] (grown 57 ((infL (path++[(k:Int),0]) nb names 0 x.body).map encInfo)) :=
   hb x.bn false nb _ _ (by simp; omega) (by omega)
  have c3:Sp theEnv 49 [.slice (nk x.en) (x.els.map encStm), .slice .shut ((path++[(k:Int),1]).map encI), .slice (nk nb) (names.map encS)] (grown 57 ((infL (path++[(k:Int),1]) nb names 0 x.els).map encInfo)) :=
   he x.en false nb _ _ (by simp; omega) (by omega)
  have c4:=rreads_ok x.value hxo.value' (by omega)
  have hlen:=infL_len (l.take (k+1)) path nb names 0
  have htk:=wtR_take (enc:=encStm) (l:=l) (k:=k+1)
  have hsn:infL path nb names 0 (l.take (k+1))=infL path nb names 0 (l.take k)++infS path nb names k x:=by
   rw [take_snoc' hx,infL_snoc]
   have:(l.take k).length=k:=by simp; omega
   rw [this,Nat.zero_add]
  rw [hsn,List.length_append] at hlen
  have gg:∀ zs:List Info,(infL path nb names 0 (l.take k)).length+zs.length≤1000000000→appO 57 22 376 (grown 57 ((infL path nb names 0 (l.take k)).map encInfo)) (grown 57 (zs.map encInfo))=some (grown 57 ((infL path nb names 0 (l.take k)).map encInfo++zs.map encInfo)):=fun zs h=>app_gg (lens_Info _) (by simpa using h) (by decide)
  rw [hsn,List.map_append]
  rw [infS_eq] at hlen ⊢
  simp only [go_sem,simprocAttr,hkept,hi,hv,iaO_map hx,badd_var,a1,a2]
  rw [Run_if]
  simp only [go_sem,simprocAttr]
  split
  ·rename_i h1
   rw [if_pos h1] at hlen
   have g1:=gg (infL (path++[(k:Int),0]) false (names++[x.name]) 0 x.body) (by omega)
   simp only [go_sem,simprocAttr,hkept,b0,b1,b2,b3,c1.call,hv,Wk_enter,g1,if_pos h1]
  ·rename_i h1
   rw [if_neg h1] at hlen
   rw [Run_if]
   simp only [go_sem,simprocAttr]
   split
   ·rename_i h2
    rw [if_pos h2,List.length_append] at hlen
    have g1:=gg (infL (path++[(k:Int),0]) nb names 0 x.body) (by omega)
    have g2:=app_gg (e:=57) (n:=22) (b:=376) (xs:=(infL path nb names 0 (l.take k)).map encInfo++(infL (path++[(k:Int),0]) nb names 0 x.body).map encInfo) (ys:=(infL (path++[(k:Int),1]) nb names 0 x.els).map encInfo) (lens_Info _) (by simp; omega) (by decide)
    simp only [go_sem,simprocAttr,hkept,b0,b1,c2.call,c3.call,hv,Wk_enter,g1,g2,if_neg h1,if_pos h2]
    simp only [List.map_append,List.append_assoc]
   ·rename_i h2
    rw [if_neg h2] at hlen
    have h20:20≤(encStm x++[V.slice .nil []]).length:=by simp [len_Stm]
    have l19:(encStm x).length=19:=len_Stm x
    have e5:V.slice .shut ((path++[(k:Int)]).map encI)::V.slice (nk nb) (names.map encS)::(encStm x++[V.slice (nk (rReads x.value).isEmpty) ((rReads x.value).map encRef)])=encInfo ⟨path++[(k:Int)],nb,names,x,rReads x.value⟩:=rfl
    have e6:∀ y:Info,(encInfo y).length=22:=fun y=>by simp [encInfo,len_Stm]
    have e7:∀ y:Info,lowL 0 (encInfo y)=true:=fun y=>by simp [encInfo,lowL,low,lowL_append,low_Stm]
    have e8:∀ y:Info,(encInfo y).map strip=encInfo y:=fun y=>by simp [encInfo,strip_Stm,strip_nk]; rfl
    have g1:=app_Info (e:=57) (b:=376) (l:=infL path nb names 0 (l.take k)) (x:=⟨path++[(k:Int)],nb,names,x,rReads x.value⟩) (by omega) (by decide)
    simp only [go_sem,simprocAttr,hkept,c4.call,hv,Wk_enter,if_neg h1,if_neg h2,h20,setAt_last,List.isEmpty_map,e5,e6,e7,e8,g1]
 ·rintro F _ ⟨hv,B,rfl⟩ hkept
  simp only [go_sem,simprocAttr] at hkept hv
  rw [List.take_length] at hv
  simp only [go_sem,simprocAttr,hkept,hv]
theorem infos_ok {l:List Stm} (hl:l.length≤LIM) (hok:∀ s∈l,OkStm s):InfSpec l :=
 inf_list hl hok fun s hs=>(Stm.ind (P:=fun s=>OkStm s→InfSpec s.body∧InfSpec s.els) (fun x ihb ihe hx =>
  ⟨inf_list hx.bn' hx.body' fun y hy=>ihb y hy (hx.body' y hy),inf_list hx.en' hx.els' fun y hy=>ihe y hy (hx.els' y hy)⟩) s) (hok s hs)
end I
end Wp
end AM
end Go.Proofs.YtimfbnojmdnlnaaGreat
