/- Arguments that are slices and numbers; Arguments that are memories and bytes. -/
import Derived.Test.YtimfbnojmdnlnaaGreatKM23
import Derived.Test.YtimfbnojmdnlnaaGreatKM24
import Derived.Test.YtimfbnojmdnlnaaGreatKM52
set_option linter.all false
set_option maxRecDepth 100000
section
namespace Go.Proofs.YtimfbnojmdnlnaaGreat
namespace AM
open Go.RowKit Go.ChangeShapes Go.WideShapes Go.ChangeAt
namespace Wp
theorem ints_slice:∃ e,Tryz.prog.underlying 27=some (.slice e):=by
 have h:(Tryz.prog.underlying 27).map (fun d=>match d with | .slice _=>true | _=>false)=some true:=by kernel_rfl
 cases hu:Tryz.prog.underlying 27 with
 | none=>rw [hu] at h; cases h
 | some d=>rw [hu] at h; cases d<;>simp at h; exact ⟨_,rfl⟩
theorem ty_Ints {n:Nat} {cs:List V} (h:typed Tryz.prog n 27 cs):∃ b xs,cs=[.slice (nk b) (xs.map encI)]∧xs.length≤LIM∧(b=true→xs=[]):=by
 obtain ⟨b,ys,h1,h2,_,h3⟩:=ty_sl (P:=Tryz.prog) (t:=27) (e:=3) (c:=1) (enc:=encI) (Ok:=fun _=>True) (by kernel_rfl) h (fun m _ x hx=>by
  obtain ⟨i,hi,_⟩:=ty_int hx
  exact ⟨i,hi,trivial⟩)
 exact ⟨b,ys,h1,h2,h3⟩
end Wp
end AM
end Go.Proofs.YtimfbnojmdnlnaaGreat
end
section
namespace Go.Proofs.YtimfbnojmdnlnaaGreat
namespace AM
open Go.RowKit Go.ChangeShapes Go.WideShapes Go.ChangeAt
def memTys:List Nat:=[70,27,3,75,5]
theorem mem_closed:closedT Tryz.prog memTys=true:=by kernel_rfl
theorem slice_arg2 {H:Type} {enc:TypeId×Value→H} {W:World} {base:Nat} {t e:Nat} {v:Value} {d:DataW H} {ps:List MemPlace} (hu:Tryz.prog.underlying t=some (.slice e)) (ht:t∈memTys) (hv:Value.okWide Tryz.prog W .any base t v) (h:DataW.Trod enc Tryz.prog W 0 (fun _=>true) true t v d ps) :
  ∃ n s,typed Tryz.prog n t [s]∧Rel (g0 W) 1 s v∧wtL [s]≤Rows.uptoBulk d:=by
 unfold Value.okWide at hv
 rw [hu] at hv
 simp only [Cell.okWide,hu,Cell.ok] at hv
 have hcs:v.cells=#[v]:=by
  cases v<;>first | rfl | (simp at hv)
 obtain ⟨n,hn⟩:=h
 obtain ⟨vs,h1,h2,h3,h4⟩:=trod_open mem_closed n t _ d ps ht hn
 rw [hcs] at h1
 cases vs with
 | nil=>simp [RelL] at h1
 | cons s ss =>
  simp only [RelL] at h1
  obtain ⟨u,us,h5,h6,h7⟩:=h1
  simp only [List.cons.injEq] at h5
  obtain ⟨rfl,rfl⟩:=h5
  cases ss with
  | nil=>exact ⟨n,s,h3,rel_mono (Le.refl 0 _) (Nat.zero_le _) _ _ h6,h4⟩
  | cons s2 ss =>
   simp only [RelL] at h7
   obtain ⟨_,_,h8,_⟩:=h7
   cases h8
theorem sl_of {t:Nat} (h:(Tryz.prog.underlying t).map (fun d=>match d with | .slice _=>true | _=>false)=some true):∃ e,Tryz.prog.underlying t=some (.slice e):=by
 cases hu:Tryz.prog.underlying t with
 | none=>rw [hu] at h; cases h
 | some d=>rw [hu] at h; cases d<;>simp at h; exact ⟨_,rfl⟩
namespace Wp
theorem mem_slice:∃ e,Tryz.prog.underlying 70=some (.slice e):=sl_of (by kernel_rfl)
theorem ty_Mems {n:Nat} {cs:List V} (h:typed Tryz.prog n 70 cs):∃ (b:Bool) (mem:List Mem),cs=[.slice (nk b) (mem.map encMem)]∧(∀ m∈mem,m.n=true→m.row=[]):=by
 obtain ⟨b,ys,h1,h2,h3,h4⟩:=ty_sl (P:=Tryz.prog) (t:=70) (e:=27) (c:=1) (enc:=encMem) (Ok:=fun m=>m.n=true→m.row=[]) (by kernel_rfl) h (fun m _ x hx=>by
  obtain ⟨b,xs,hi,_,hz⟩:=ty_Ints hx
  exact ⟨⟨b,xs⟩,hi,hz⟩)
 exact ⟨b,ys,h1,h3⟩
theorem wt_mems:∀ (mem:List Mem),mem.length+memLen mem≤wtR (mem.map encMem)
 | []=>by simp [memLen]
 | m::l=>by
  have:=wt_mems l
  have:=rwtR_len (enc:=encI) (fun x=>by simp [encI,wtL,wt]) m.row
  simp only [List.length_cons,memLen,List.map_cons,wtR,encMem,wtL,wt]; omega
end Wp
end AM
end Go.Proofs.YtimfbnojmdnlnaaGreat
end
