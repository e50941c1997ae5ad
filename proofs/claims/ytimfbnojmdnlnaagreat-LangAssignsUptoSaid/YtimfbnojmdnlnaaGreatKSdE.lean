/- Plain laws: what the steps of a valid program have to do with Infos and Find; copies are alike. -/
import Derived.Test.YtimfbnojmdnlnaaGreatKM29
import Derived.Test.YtimfbnojmdnlnaaGreatKM33
import Derived.Test.YtimfbnojmdnlnaaGreatKSbSa
set_option linter.unusedVariables false
set_option linter.unusedSimpArgs false
set_option maxRecDepth 100000
namespace Go.Proofs.YtimfbnojmdnlnaaGreat
namespace AM
namespace Wp
mutual
def kokS : Stm → Prop
 | ⟨kind, _, _, _, _, _, _, _, _, _, body, _, els⟩ => (kind = 1 ∧ els = [] ∨ kind = 2 ∨ kind = 3 ∧ body = [] ∧ els = []) ∧ kokL body ∧ kokL els
def kokL : List Stm → Prop
 | [] => True
 | s :: l => kokS s ∧ kokL l
end
theorem kokS_eq (s : Stm) : kokS s = ((s.kind = 1 ∧ s.els = [] ∨ s.kind = 2 ∨ s.kind = 3 ∧ s.body = [] ∧ s.els = []) ∧ kokL s.body ∧ kokL s.els) := by cases s; rw [kokS]
theorem kokL_nil : kokL [] := by simp [kokL]
theorem kokL_mem : ∀ {l : List Stm} {s : Stm}, kokL l → s ∈ l → kokS s
 | x :: l, s, h, hs => by
  simp only [kokL] at h
  rcases List.mem_cons.1 hs with rfl | hs
  ·exact h.1
  ·exact kokL_mem h.2 hs
theorem kok_list {p : Prg} : ∀ (l : List Stm), (∀ s ∈ l, ∀ (nm : List ByteArray) (st : Int), (chkStm p s nm st).1 = true → kokS s) → ∀ (nm : List ByteArray) (st : Int), (chkList p l nm st).1 = true → kokL l
 | [], _, _, _, _ => by simp [kokL]
 | s :: l, h, nm, st, hc => by
  simp only [chkList] at hc
  simp only [kokL]
  split at hc <;> try (cases hc; done)
  split at hc <;> try (cases hc; done)
  rename_i h1
  exact ⟨h s List.mem_cons_self nm _ h1, kok_list l (fun t ht => h t (List.mem_cons_of_mem _ ht)) nm _ hc⟩
theorem kok_stm {p : Prg} : ∀ (s : Stm) (nm : List ByteArray) (st : Int), (chkStm p s nm st).1 = true → kokS s := by
 refine Stm.ind fun s ihb ihe nm st hc => ?_
 rw [kokS_eq]
 have hB := kok_list s.body ihb
 have hE := kok_list s.els ihe
 by_cases h1 : s.kind = 1
 ·rw [chkStm_for h1] at hc
  split at hc <;> try (cases hc; done)
  rename_i hf
  have he : s.els = [] := by
   simp only [cFor, Bool.and_eq_true, decide_eq_true_eq] at hf
   exact List.length_eq_zero_iff.1 (by omega)
  exact ⟨.inl ⟨h1, he⟩, hB _ _ (chkBody_list hc), by rw [he]; exact kokL_nil⟩
 ·by_cases h2 : s.kind = 2
  ·rw [chkStm_if h2] at hc
   split at hc <;> try (cases hc; done)
   split at hc <;> try (cases hc; done)
   rename_i hb
   exact ⟨.inr (.inl h2), hB _ _ (chkBody_list hb), hE _ _ (chkBody_list hc)⟩
  ·by_cases h3 : s.kind = 3
   ·have hca : cAsg p nm s = true := by
     cases s
     simp only at h3
     rw [chkStm] at hc
     have e1 : ¬ (3 : Int) = 1 := by decide
     have e2 : ¬ (3 : Int) = 2 := by decide
     simpa only [h3, e1, e2, if_true, if_false] using hc
    simp only [cAsg, Bool.and_eq_true, decide_eq_true_eq] at hca
    have hb : s.body = [] := List.length_eq_zero_iff.1 (by omega)
    have he : s.els = [] := List.length_eq_zero_iff.1 (by omega)
    exact ⟨.inr (.inr ⟨h3, hb, he⟩), by rw [hb]; exact kokL_nil, by rw [he]; exact kokL_nil⟩
   ·cases s
    simp only at h1 h2 h3
    rw [chkStm] at hc
    simp only [h1, h2, h3, if_false] at hc
    cases hc
theorem kok_prg {p : Prg} (h : chkPrg p = true) : kokL p.body := by
 simp only [chkPrg, Bool.and_eq_true] at h
 exact kok_list p.body (fun s _ => kok_stm s) _ _ (chkBody_list h.2)
def cpInfo (y : Info) : Info := ⟨y.path, y.nb, y.names, copyStm y.s, y.rd.map copyRef⟩
theorem steps_infL : ∀ (l : List Stm), (∀ s ∈ l, ∀ (path : List Int) (nb : Bool) (names : List ByteArray) (i : Nat), kokS s → ((stepsS path nb names i s).filter fun x => decide (x.s.kind = 3)).map infoOf = (infS path nb names i s).map cpInfo) →
  ∀ (path : List Int) (nb : Bool) (names : List ByteArray) (i : Nat), kokL l → ((stepsL path nb names i l).filter fun x => decide (x.s.kind = 3)).map infoOf = (infL path nb names i l).map cpInfo
 | [], _, path, nb, names, i, _ => by simp [stepsL, infL]
 | s :: l, h, path, nb, names, i, hk => by
  simp only [kokL] at hk
  simp only [stepsL, infL, List.filter_append, List.map_append]
  rw [h s List.mem_cons_self path nb names i hk.1, steps_infL l (fun t ht => h t (List.mem_cons_of_mem _ ht)) path nb names (i + 1) hk.2]
theorem steps_infS : ∀ (s : Stm) (path : List Int) (nb : Bool) (names : List ByteArray) (i : Nat), kokS s → ((stepsS path nb names i s).filter fun x => decide (x.s.kind = 3)).map infoOf = (infS path nb names i s).map cpInfo := by
 refine Stm.ind fun s ihb ihe path nb names i hk => ?_
 rw [kokS_eq] at hk
 obtain ⟨hk, hb, he⟩ := hk
 have hB := fun p n m => steps_infL s.body ihb p n m 0 hb
 have hE := fun p n m => steps_infL s.els ihe p n m 0 he
 rw [stepsS_eq, infS_eq]
 rcases hk with ⟨h1, h2⟩ | h1 | ⟨h1, h2, h3⟩
 ·have e1 : inNb nb s = false := by simp [inNb, h1]
  have e2 : inNames names s = names ++ [s.name] := by simp [inNames, h1]
  rw [if_pos h1, h2, e1, e2, List.filter_cons_of_neg (by simp [h1]), List.filter_append, List.map_append, hB]
  simp [stepsL]
 ·have e1 : inNb nb s = nb := by simp [inNb, h1]
  have e2 : inNames names s = names := by simp [inNames, h1]
  rw [if_neg (by omega), if_pos h1, e1, e2, List.filter_cons_of_neg (by simp [h1]), List.filter_append, List.map_append, List.map_append, hB, hE]
  simp
 ·rw [if_neg (by omega), if_neg (by omega), h2, h3, List.filter_cons_of_pos (by simp [h1])]
  simp [stepsL, infoOf, cpInfo, reads_map]
theorem infos_prg {p : Prg} (h : chkPrg p = true) : ((allSteps p).filter fun x => decide (x.s.kind = 3)).map infoOf = (infL [] p.pn p.params 0 p.body).map cpInfo :=
 steps_infL p.body (fun s _ => steps_infS s) _ _ _ _ (kok_prg h)
theorem mem_steps {x : Step} {path : List Int} {nb : Bool} {names : List ByteArray} : ∀ {l : List Stm} {i : Nat}, x ∈ stepsL path nb names i l ↔ ∃ (k : Nat) (s : Stm), l[k]? = some s ∧ x ∈ stepsS path nb names (i + k) s
 | [], i => by simp [stepsL]
 | s :: l, i => by
  simp only [stepsL, List.mem_append]
  rw [mem_steps (l := l)]
  constructor
  ·rintro (h | ⟨k, t, h1, h2⟩)
   ·exact ⟨0, s, rfl, h⟩
   ·exact ⟨k + 1, t, by simpa using h1, by rw [show i + (k + 1) = i + 1 + k from by omega]; exact h2⟩
  ·rintro ⟨k, t, h1, h2⟩
   cases k with
   | zero => simp at h1; subst h1; exact .inl h2
   | succ k => exact .inr ⟨k, t, by simpa using h1, by rw [show i + 1 + k = i + (k + 1) from by omega]; exact h2⟩
theorem find_mem : ∀ (q : List Int) {l : List Stm} {pre : List Int} {nb : Bool} {names : List ByteArray} {y : Stm × Bool × List ByteArray}, findR q l nb names = some y → (⟨pre ++ q, y.2.1, y.2.2, y.1⟩ : Step) ∈ stepsL pre nb names 0 l
 | [], l, pre, nb, names, y, h => by cases h
 | [i], l, pre, nb, names, y, h => by
  simp only [findR] at h
  split at h <;> try (cases h; done)
  rename_i h0
  obtain ⟨s, hs, rfl⟩ := Option.map_eq_some_iff.1 h
  refine mem_steps.2 ⟨i.toNat, s, hs, ?_⟩
  rw [stepsS_eq, Nat.zero_add, Int.toNat_of_nonneg h0]
  exact List.mem_cons_self
 | i :: j :: rest, l, pre, nb, names, y, h => by
  simp only [findR] at h
  split at h <;> try (cases h; done)
  rename_i h0
  split at h <;> try (cases h; done)
  rename_i s hs
  refine mem_steps.2 ⟨i.toNat, s, hs, ?_⟩
  rw [stepsS_eq, Nat.zero_add, Int.toNat_of_nonneg h0]
  refine List.mem_cons_of_mem _ (List.mem_append.2 ?_)
  split at h
  ·rename_i h1
   obtain ⟨h1, rfl⟩ := h1
   have := find_mem rest (pre := pre ++ [i] ++ [0]) h
   refine .inl ?_
   simp only [inNb, inNames, h1, if_true]
   simpa using this
  ·split at h
   ·rename_i h1
    obtain ⟨h1, rfl⟩ := h1
    have := find_mem rest (pre := pre ++ [i] ++ [0]) h
    refine .inl ?_
    have e : ¬ ((2 : Int) = 1) := by decide
    simp only [inNb, inNames, h1, e, if_false]
    simpa using this
   ·split at h <;> try (cases h; done)
    rename_i h1
    obtain ⟨h1, rfl⟩ := h1
    have := find_mem rest (pre := pre ++ [i] ++ [1]) h
    refine .inr ?_
    have e : ¬ ((2 : Int) = 1) := by decide
    simp only [inNb, inNames, h1, e, if_false]
    simpa using this
theorem mem_find : ∀ (q : List Int) {l : List Stm} {pre : List Int} {nb nb' : Bool} {names names' : List ByteArray} {x : Step}, kokL l → x ∈ stepsL pre nb names 0 l → x.path = pre ++ q → (findR q l nb' names').isSome = true
 | [], l, pre, nb, nb', names, names', x, hk, hx, h => by
  obtain ⟨j, r, _, h'⟩ := mem_stepsL l hx
  rw [h'] at h
  simp at h
 | [i], l, pre, nb, nb', names, names', x, hk, hx, h => by
  obtain ⟨k, s, hs, hx⟩ := mem_steps.1 hx
  obtain ⟨r, hr⟩ := mem_stepsS s hx
  rw [hr, Nat.zero_add] at h
  have h := List.append_cancel_left h
  simp only [List.cons.injEq] at h
  obtain ⟨rfl, rfl⟩ := h
  simp [findR, hs]
 | i :: j :: rest, l, pre, nb, nb', names, names', x, hk, hx, h => by
  obtain ⟨k, s, hs, hx⟩ := mem_steps.1 hx
  have hks := kokL_mem hk (List.mem_of_getElem? hs)
  rw [kokS_eq] at hks
  obtain ⟨hks, hb, he⟩ := hks
  rw [stepsS_eq, Nat.zero_add] at hx
  rcases List.mem_cons.1 hx with rfl | hx
  ·simp at h
  ·rcases List.mem_append.1 hx with hx | hx
   ·obtain ⟨j', r, _, h'⟩ := mem_stepsL s.body hx
    have hh := h'
    rw [h, List.append_assoc, List.append_assoc] at hh
    have hh := List.append_cancel_left hh
    simp only [List.cons_append, List.nil_append, List.cons.injEq] at hh
    obtain ⟨rfl, rfl, hh⟩ := hh
    have hxp : x.path = pre ++ [(k : Int)] ++ [0] ++ rest := by rw [h]; simp
    rcases hks with ⟨h1, h2⟩ | h1 | ⟨h1, h2, h3⟩
    ·simp only [findR, hs, Int.toNat_natCast, h1]
     simpa using mem_find rest hb hx hxp
    ·simp only [findR, hs, Int.toNat_natCast, h1]
     simpa using mem_find rest hb hx hxp
    ·rw [h2] at hx; simp [stepsL] at hx
   ·obtain ⟨j', r, _, h'⟩ := mem_stepsL s.els hx
    have hh := h'
    rw [h, List.append_assoc, List.append_assoc] at hh
    have hh := List.append_cancel_left hh
    simp only [List.cons_append, List.nil_append, List.cons.injEq] at hh
    obtain ⟨rfl, rfl, hh⟩ := hh
    have hxp : x.path = pre ++ [(k : Int)] ++ [1] ++ rest := by rw [h]; simp
    rcases hks with ⟨h1, h2⟩ | h1 | ⟨h1, h2, h3⟩
    ·rw [h2] at hx; simp [stepsL] at hx
    ·simp only [findR, hs, Int.toNat_natCast, h1]
     simpa using mem_find rest he hx hxp
    ·rw [h3] at hx; simp [stepsL] at hx
theorem at_find {p : Prg} (h : chkPrg p = true) (path : List Int) : atPath p path = (findR path p.body p.pn p.params).map fun y => (⟨path, y.2.1, y.2.2, y.1⟩ : Step) := by
 cases hf : findR path p.body p.pn p.params with
 | none =>
  refine List.find?_eq_none.2 fun x hx => ?_
  simp only [decide_eq_true_eq]
  intro hp
  have := mem_find path (nb' := p.pn) (names' := p.params) (kok_prg h) hx (by simpa using hp)
  rw [hf] at this
  cases this
 | some y =>
  have hm : (⟨path, y.2.1, y.2.2, y.1⟩ : Step) ∈ allSteps p := by
   have := find_mem path (pre := []) hf
   show _ ∈ stepsL [] p.pn p.params 0 p.body
   simpa using this
  exact pair_find (pairL p.body) hm
theorem like_R {α : Type} {enc : α → List V} {f : α → α} {l : List α} (h : ∀ x ∈ l, eqvL (enc (f x)) (enc x) = true) : eqvR ((l.map f).map enc) (l.map enc) = true := by
 refine eqvR_all (by simp) fun i x y hx hy => ?_
 rw [List.map_map] at hx
 simp only [List.getElem?_map, Option.map_eq_some_iff] at hx hy
 obtain ⟨a, ha, rfl⟩ := hx
 obtain ⟨b, hb, rfl⟩ := hy
 rw [ha] at hb
 cases hb
 exact h a (List.mem_of_getElem? ha)
theorem like_Ref (r : Ref) : eqvL (encRef (copyRef r)) (encRef r) = true := by rw [eqv_Ref]; simp only [copyRef]; rw [refl_R fun x _ => refl_Lin x]; simp
theorem like_Exp : ∀ a : Exp, eqvL (encExp (copyExp a)) (encExp a) = true := Exp.ind fun x ih => by
 cases x
 rw [copyExp, eqv_Exp, copyExps_map]
 simp only at ih ⊢
 rw [like_R ih, refl_Lin, like_Ref]; simp
theorem like_Bound (b : Bound) : eqvL (encBound (copyBound b)) (encBound b) = true := by
 rw [eqv_Bound]; simp only [copyBound]
 exact like_R fun x _ => by rw [eqv_Part]; simp only [copyPart]; exact refl_R fun x _ => refl_Rw x
theorem like_PSet (b : PSet) : eqvL (encPSet (copyPSet b)) (encPSet b) = true := by
 rw [eqv_PSet]; simp only [copyPSet]
 rw [like_R fun x _ => by rw [eqv_Piece]; simp only [copyPiece]; exact refl_R fun x _ => refl_Cnd x]; simp
theorem like_Stm : ∀ a : Stm, eqvL (encStm (copyStm a)) (encStm a) = true := Stm.ind fun x ihb ihe => by
 cases x
 rw [copyStm, eqv_Stm, copyStms_map, copyStms_map]
 simp only at ihb ihe ⊢
 rw [like_R ihb, like_R ihe, like_Bound, like_Bound, like_PSet, like_Ref, like_Exp]; simp
end Wp
end AM
end Go.Proofs.YtimfbnojmdnlnaaGreat
