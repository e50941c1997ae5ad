/- run.begun; run.begun; run.Run. -/
import Derived.Test.YtimfbnojmdnlnaaGreatKSfO
import Derived.Test.YtimfbnojmdnlnaaGreatKM38
set_option linter.all false
set_option maxRecDepth 100000
section
namespace Go.Proofs.YtimfbnojmdnlnaaGreat
namespace AM
namespace Wp
def RowsM (B : List (List V)) (cs : List V) (mem : List Mem) : Prop :=
 cs.length = mem.length ∧ (∀ (j : Nat) (m : Mem),mem[j]? = some m → (m.row = [] ∧ cs[j]? = some (.slice .nil [])) ∨ ∃ i : Nat,cs[j]? = some (.bsl 0 i 0 m.row.length 1 3) ∧ B[i]? = some (ints m.row)) ∧
  ∀ (j j' i n n' : Nat),cs[j]? = some (.bsl 0 i 0 n 1 3) → cs[j']? = some (.bsl 0 i 0 n' 1 3) → j = j'
theorem RowsM.mono {B C : List (List V)} {cs : List V} {mem : List Mem} (h : RowsM B cs mem) : RowsM (B ++ C) cs mem := by
 refine ⟨h.1,fun j m hm => ?_,h.2.2⟩
 rcases h.2.1 j m hm with h1 | ⟨i,h1,h2⟩
 ·exact .inl h1
 ·exact .inr ⟨i,h1,by rw [List.getElem?_append_left (List.getElem?_eq_some_iff.1 h2).1]; exact h2⟩
theorem RowsM.set {B : List (List V)} {cs ds X : List V} {j : Nat} {mem : List Mem} (h : RowsM B cs mem) (hj : B[j]? = some ds) (hd : ∀ r : List Int,ds ≠ ints r) : RowsM (B.set j X) cs mem := by
 refine ⟨h.1,fun k m hm => ?_,h.2.2⟩
 rcases h.2.1 k m hm with h1 | ⟨i,h1,h2⟩
 ·exact .inl h1
 ·refine .inr ⟨i,h1,?_⟩
  rw [List.getElem?_set_ne,h2]
  rintro rfl
  rw [hj] at h2
  exact hd _ (Option.some.inj h2)
theorem RowsM.lt {B : List (List V)} {cs : List V} {mem : List Mem} (h : RowsM B cs mem) {j i n : Nat} (hc : cs[j]? = some (.bsl 0 i 0 n 1 3)) : i < B.length := by
 have hj := (List.getElem?_eq_some_iff.1 hc).1
 have hm : mem[j]? = some (mem[j]'(by rw [← h.1]; exact hj)) := List.getElem?_eq_getElem _
 rcases h.2.1 j _ hm with ⟨_,h1⟩ | ⟨i',h1,h2⟩
 ·rw [hc] at h1; cases h1
 ·rw [hc] at h1
  cases h1
  exact (List.getElem?_eq_some_iff.1 h2).1
theorem RowsM.row {B C : List (List V)} {cs : List V} {mem : List Mem} {m : Mem} (h : RowsM B cs mem) : RowsM (B ++ ints m.row :: C) (cs ++ [.bsl 0 B.length 0 m.row.length 1 3]) (mem ++ [m]) := by
 refine ⟨by simp [h.1],fun j q hq => ?_,fun j j' i n n' h1 h2 => ?_⟩
 ·rcases Nat.lt_or_ge j mem.length with hj | hj
  ·rw [List.getElem?_append_left hj] at hq
   rw [List.getElem?_append_left (by rw [h.1]; exact hj)]
   exact h.mono.2.1 j q hq
  ·rw [List.getElem?_append_right hj] at hq
   have hj0 : j - mem.length = 0 := by
    have := (List.getElem?_eq_some_iff.1 hq).1
    simp at this; omega
   rw [hj0] at hq
   simp at hq; subst hq
   refine .inr ⟨B.length,?_,?_⟩
   ·rw [List.getElem?_append_right (by rw [h.1]; exact hj),h.1,hj0]; rfl
   ·rw [List.getElem?_append_right (Nat.le_refl _),Nat.sub_self]; rfl
 ·have lt : ∀ {j i n : Nat},(cs ++ [V.bsl 0 B.length 0 m.row.length 1 3])[j]? = some (.bsl 0 i 0 n 1 3) → cs[j]? = some (.bsl 0 i 0 n 1 3) ∧ i < B.length ∨ j = cs.length ∧ i = B.length := by
   intro j i n hj
   rcases Nat.lt_or_ge j cs.length with h1 | h1
   ·rw [List.getElem?_append_left h1] at hj
    exact .inl ⟨hj,h.lt hj⟩
   ·rw [List.getElem?_append_right h1] at hj
    have h0 := (List.getElem?_eq_some_iff.1 hj).1
    simp at h0
    have h0' : j - cs.length = 0 := by omega
    rw [h0'] at hj
    simp at hj
    exact .inr ⟨by omega,by omega⟩
  rcases lt h1 with ⟨a1,a2⟩ | ⟨a1,a2⟩ <;> rcases lt h2 with ⟨b1,b2⟩ | ⟨b1,b2⟩
  ·exact h.2.2 j j' i n n' a1 b1
  ·omega
  ·omega
  ·omega
theorem RowsM.own {B : List (List V)} {cs : List V} {mem : List Mem} (h : RowsM B cs mem) : ∀ c ∈ cs,c = .slice .nil [] ∨ ∃ i n,c = .bsl 0 i 0 n 1 3 := by
 intro c hc
 obtain ⟨j,hj⟩ := List.mem_iff_getElem?.1 hc
 have hlt := (List.getElem?_eq_some_iff.1 hj).1
 have hm : mem[j]? = some (mem[j]'(by rw [← h.1]; exact hlt)) := List.getElem?_eq_getElem _
 rcases h.2.1 j _ hm with ⟨_,h1⟩ | ⟨i',h1,h2⟩
 ·rw [hj] at h1; exact .inl (Option.some.inj h1)
 ·rw [hj] at h1; exact .inr ⟨_,_,Option.some.inj h1⟩
theorem RowsM.noOwn {B : List (List V)} {cs : List V} {mem : List Mem} (h : RowsM B cs mem) : AM.noOwn cs = true := by
 unfold AM.noOwn
 rw [List.all_eq_true]
 intro c hc
 rcases h.own c hc with rfl | ⟨i,n,rfl⟩ <;> rfl
theorem RowsM.undef {B : List (List V)} {cs : List V} {mem : List Mem} (h : RowsM B cs mem) : ∀ c ∈ cs,isUndef c = false := by
 intro c hc
 rcases h.own c hc with rfl | ⟨i,n,rfl⟩ <;> rfl
theorem RowsM.ne_ints {B : List (List V)} {cs : List V} {mem : List Mem} (h : RowsM B cs mem) (hn : cs ≠ []) : ∀ r : List Int,cs ≠ ints r := by
 cases cs with
 | nil => exact absurd rfl hn
 | cons c cs =>
  refine Wp.ne_ints ?_
  intro n hc
  rcases h.own c (by simp) with h | ⟨i,m,h⟩ <;> rw [hc] at h <;> cases h
end Wp
end AM
end Go.Proofs.YtimfbnojmdnlnaaGreat
end
section
namespace Go.Proofs.YtimfbnojmdnlnaaGreat
namespace AM
namespace Wp
@[go_sem] theorem getBox_one {B : List (List V)} {lp : Option Lp} {i : Nat} : getBox [⟨B,lp⟩] 0 i = bget B i := _root_.id rfl
@[go_sem] theorem setBox_one {B : List (List V)} {lp : Option Lp} {i : Nat} {v : List V} : setBox [⟨B,lp⟩] 0 i v = [⟨bset B i v,lp⟩] := _root_.id rfl
theorem barest_one {b : List V} (h : bareL b = true) : barest [b] = true := by simp [barest,h]
theorem bareL_ints : ∀ r : List Int,bareL (ints r) = true
 | [] => rfl
 | x :: r => by
  have := bareL_ints r
  simp only [ints,List.map_cons,bareL,bare,Bool.true_and] at this ⊢
  exact this
theorem barest_set {X : List V} (hX : barest [X] = true) : ∀ {B : List (List V)} {j : Nat},barest B = true → barest (B.set j X) = true
 | [],_,_ => rfl
 | b :: B,0,h => by
  simp only [barest,Bool.and_eq_true,List.set_cons_zero,Bool.and_true] at h hX ⊢
  exact ⟨hX,h.2⟩
 | b :: B,j + 1,h => by
  simp only [barest,Bool.and_eq_true,List.set_cons_succ] at h ⊢
  exact ⟨h.1,barest_set hX h.2⟩
def OkMem (mem : List Mem) : Prop := mem.length ≤ 1000000 ∧ ∀ m ∈ mem,m.row.length ≤ 1000000 ∧ (m.n = true → m.row = [])
def BegV (p : Prg) (ps : List Int) (mem : List Mem) (F : Fr) (B : List (List V)) : Prop :=
 if askErr p ps = 0 then
  (if fitV mem (shapesOf ps p.arrays) = true then
   F 6 = .slice (nk (shapesOf ps p.arrays).isEmpty) ((shapesOf ps p.arrays).map encShape) ∧ F 8 = .int .i64 0 ∧ (barest B = true ∧ calmB B = true) ∧
    ((mem = [] ∧ F 7 = .slice .nil []) ∨ (mem ≠ [] ∧ ∃ j cs,F 7 = .bsl 0 j 0 mem.length 1 27 ∧ B[j]? = some cs ∧ RowsM B cs mem))
  else F 6 = .slice .nil [] ∧ F 7 = .slice .nil [] ∧ F 8 = .int .i64 1)
 else F 6 = .slice .nil [] ∧ F 7 = .slice .nil [] ∧ F 8 = .int .i64 (askErr p ps)
end Wp
end AM
end Go.Proofs.YtimfbnojmdnlnaaGreat
end
section
namespace Go.Proofs.YtimfbnojmdnlnaaGreat
namespace AM
namespace Wp
mutual
theorem good_reloc {a b c : Nat} : ∀ v : V,good (reloc a b c v) = good v
 | .undef => rfl
 | .bool _ => rfl
 | .int _ _ => rfl
 | .str _ => rfl
 | .ptr l i o => by simp only [reloc]; split <;> rfl
 | .nilp => rfl
 | .look _ => rfl
 | .slice _ _ => rfl
 | .func f cs => by simp only [reloc,good,goodL_reloc cs]
 | .nilf => rfl
 | .ifc _ v => by simp only [reloc,good,good_reloc v]
 | .nili => rfl
 | .agg cs => by simp only [reloc,good,goodL_reloc cs]
 | .tup cs => by simp only [reloc,good,goodL_reloc cs]
 | .fresh _ => rfl
 | .mir .. => rfl
 | .bsl l i o n m e => by simp only [reloc]; split <;> rfl
theorem goodL_reloc {a b c : Nat} : ∀ vs : List V,goodL (relocL a b c vs) = goodL vs
 | [] => rfl
 | v :: vs => by simp only [relocL,goodL,good_reloc v,goodL_reloc vs]
end
end Wp
end AM
end Go.Proofs.YtimfbnojmdnlnaaGreat
end
