/- An execution keeps the shape of the memory. -/
import Derived.Test.YtimfbnojmdnlnaaGreatKM46
set_option linter.unusedVariables false
set_option linter.unusedSimpArgs false
set_option maxRecDepth 100000
namespace Go.Proofs.YtimfbnojmdnlnaaGreat
namespace AM
namespace Wp
def LenOk (ls : List Nat) : Rs → Prop
 | .ok _ rows => rows.map List.length = ls
 | .pan _ => True
theorem writeV_len {rows : List (List Int)} {a k : Nat} {v : Int} : (writeV rows a k v).map List.length = rows.map List.length := by
 unfold writeV
 apply List.ext_getElem?
 intro i
 simp only [List.getElem?_map, List.getElem?_set]
 split
 ·rename_i h
  subst h
  split
  ·rename_i h1
   simp [h1]
  ·rename_i h1
   rw [List.getElem?_eq_none (by omega)]
 ·rfl
theorem len_step {ls : List Nat} {st : Int} {rows : List (List Int)} (h : rows.map List.length = ls) : LenOk ls (stepV st rows) := by
 unfold stepV; split
 ·trivial
 ·exact h
theorem len_asg {ls : List Nat} (sh : List Shape) (s : Stm) (x : List Int) (st : Int) {rows : List (List Int)} (h : rows.map List.length = ls) : LenOk ls (assignV sh s x st rows) := by
 unfold assignV
 split
 ·trivial
 ·split
  ·trivial
  ·split
   ·trivial
   ·exact writeV_len.trans h
theorem len_loop {ls : List Nat} {f : Int → Int → List (List Int) → Rs} (hf : ∀ v st rows, rows.map List.length = ls → LenOk ls (f v st rows)) (step high : Int) : ∀ (n : Nat) (v st : Int) (rows : List (List Int)), rows.map List.length = ls → LenOk ls (loopI f step high n v st rows)
 | 0, _, _, _, h => h
 | n + 1, v, st, rows, h => by
  rw [loopI]
  split
  ·have h1 := len_step (st := st) h
   cases hs : stepV st rows with
   | pan e => trivial
   | ok st2 rows2 =>
    rw [hs] at h1
    have h2 := hf v st2 rows2 h1
    simp only
    cases hb : f v st2 rows2 with
    | pan e => trivial
    | ok st3 rows3 => rw [hb] at h2; exact len_loop hf step high n _ st3 rows3 h2
  ·exact h
theorem len_list {ls : List Nat} {sh : List Shape} : ∀ (l : List Stm), (∀ s ∈ l, ∀ x st rows, rows.map List.length = ls → LenOk ls (stmV sh s x st rows)) → ∀ x st rows, rows.map List.length = ls → LenOk ls (bodyV sh l x st rows)
 | [], _, _, _, _, h => by rw [bodyV]; exact h
 | s :: l, h, x, st, rows, hr => by
  rw [bodyV]
  have h1 := h s (by simp) x st rows hr
  cases hs : stmV sh s x st rows with
  | pan e => trivial
  | ok st2 rows2 => rw [hs] at h1; exact len_list l (fun t ht => h t (List.mem_cons_of_mem _ ht)) x st2 rows2 h1
theorem len_stm {ls : List Nat} {sh : List Shape} : ∀ (s : Stm) (x : List Int) (st : Int) (rows : List (List Int)), rows.map List.length = ls → LenOk ls (stmV sh s x st rows) := by
 refine Stm.ind fun s ihb ihe x st rows hr => ?_
 have hb := len_list s.body ihb
 have he := len_list s.els ihe
 rw [stmV_eq]
 split
 ·split
  ·trivial
  ·split
   ·trivial
   ·exact len_loop (fun v st rows h => hb _ st rows h) _ _ _ _ st rows hr
 ·split
  ·split
   ·exact hb x st rows hr
   ·exact he x st rows hr
  ·exact len_asg sh s x st hr
theorem len_body {sh : List Shape} {l : List Stm} {x : List Int} {st st' : Int} {rows rows' : List (List Int)} (h : bodyV sh l x st rows = .ok st' rows') : rows'.map List.length = rows.map List.length := by
 have := len_list (sh := sh) (ls := rows.map List.length) l (fun s _ => len_stm s) x st rows rfl
 rw [h] at this
 exact this
end Wp
end AM
end Go.Proofs.YtimfbnojmdnlnaaGreat
