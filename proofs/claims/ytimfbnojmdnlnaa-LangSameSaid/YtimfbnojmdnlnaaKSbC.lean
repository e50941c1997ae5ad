/- Names. -/
import Derived.Test.YtimfbnojmdnlnaaKSbB
set_option linter.unusedVariables false
set_option linter.unusedSimpArgs false
set_option maxRecDepth 100000
namespace Go.Proofs.Ytimfbnojmdnlnaa
namespace AM
namespace Wp
def isLet (n : Int) : Bool := decide (97 ≤ n) && decide (n ≤ 122) || decide (65 ≤ n) && decide (n ≤ 90)
def isDig (n : Int) : Bool := decide (48 ≤ n) && decide (n ≤ 57)
theorem let_set (n : Int) : Sp theEnv 126 [.int .u8 n] (.bool (isLet n)) := by
  refine Sp.fn rfl rfl rfl (by simp only [go_sem, Nat.reduceEqDiff, Nat.reduceAdd, Nat.reduceLeDiff, Nat.reduceMul, Nat.reduceSub, Int.reduceLT, Int.reduceLE, Int.reduceEq, Int.reduceAdd, Int.reduceNeg, reduceIte, reduceCtorEq, Nat.reduceLT]) (by simp only [go_sem, Nat.reduceEqDiff, Nat.reduceAdd, Nat.reduceLeDiff, Nat.reduceMul, Nat.reduceSub, Int.reduceLT, Int.reduceLE, Int.reduceEq, Int.reduceAdd, Int.reduceNeg, reduceIte, reduceCtorEq, Nat.reduceLT, implies_true]) fun S => ?_; simp only [a126, c126, go_sem, Nat.reduceEqDiff, Nat.reduceAdd, Nat.reduceLeDiff, Nat.reduceMul, Nat.reduceSub, Int.reduceLT, Int.reduceLE, Int.reduceEq, Int.reduceAdd, Int.reduceNeg, reduceIte, reduceCtorEq, Nat.reduceLT]
  simp only [isLet]
theorem dig_set (n : Int) : Sp theEnv 127 [.int .u8 n] (.bool (isDig n)) := by
  refine Sp.fn rfl rfl rfl (by simp only [go_sem, Nat.reduceEqDiff, Nat.reduceAdd, Nat.reduceLeDiff, Nat.reduceMul, Nat.reduceSub, Int.reduceLT, Int.reduceLE, Int.reduceEq, Int.reduceAdd, Int.reduceNeg, reduceIte, reduceCtorEq, Nat.reduceLT]) (by simp only [go_sem, Nat.reduceEqDiff, Nat.reduceAdd, Nat.reduceLeDiff, Nat.reduceMul, Nat.reduceSub, Int.reduceLT, Int.reduceLE, Int.reduceEq, Int.reduceAdd, Int.reduceNeg, reduceIte, reduceCtorEq, Nat.reduceLT, implies_true]) fun S => ?_; simp only [a127, c127, go_sem, Nat.reduceEqDiff, Nat.reduceAdd, Nat.reduceLeDiff, Nat.reduceMul, Nat.reduceSub, Int.reduceLT, Int.reduceLE, Int.reduceEq, Int.reduceAdd, Int.reduceNeg, reduceIte, reduceCtorEq, Nat.reduceLT]
  simp only [isDig]
theorem let_ref (n : Int) : Sp theEnv 100 [.int .u8 n] (.bool (isLet n)) := by
  refine Sp.fn rfl rfl rfl (by simp only [go_sem, Nat.reduceEqDiff, Nat.reduceAdd, Nat.reduceLeDiff, Nat.reduceMul, Nat.reduceSub, Int.reduceLT, Int.reduceLE, Int.reduceEq, Int.reduceAdd, Int.reduceNeg, reduceIte, reduceCtorEq, Nat.reduceLT]) (by simp only [go_sem, Nat.reduceEqDiff, Nat.reduceAdd, Nat.reduceLeDiff, Nat.reduceMul, Nat.reduceSub, Int.reduceLT, Int.reduceLE, Int.reduceEq, Int.reduceAdd, Int.reduceNeg, reduceIte, reduceCtorEq, Nat.reduceLT, implies_true]) fun S => ?_; simp only [a100, c100, go_sem, Nat.reduceEqDiff, Nat.reduceAdd, Nat.reduceLeDiff, Nat.reduceMul, Nat.reduceSub, Int.reduceLT, Int.reduceLE, Int.reduceEq, Int.reduceAdd, Int.reduceNeg, reduceIte, reduceCtorEq, Nat.reduceLT]
  simp only [isLet]
theorem dig_ref (n : Int) : Sp theEnv 101 [.int .u8 n] (.bool (isDig n)) := by
  refine Sp.fn rfl rfl rfl (by simp only [go_sem, Nat.reduceEqDiff, Nat.reduceAdd, Nat.reduceLeDiff, Nat.reduceMul, Nat.reduceSub, Int.reduceLT, Int.reduceLE, Int.reduceEq, Int.reduceAdd, Int.reduceNeg, reduceIte, reduceCtorEq, Nat.reduceLT]) (by simp only [go_sem, Nat.reduceEqDiff, Nat.reduceAdd, Nat.reduceLeDiff, Nat.reduceMul, Nat.reduceSub, Int.reduceLT, Int.reduceLE, Int.reduceEq, Int.reduceAdd, Int.reduceNeg, reduceIte, reduceCtorEq, Nat.reduceLT, implies_true]) fun S => ?_; simp only [a101, c101, go_sem, Nat.reduceEqDiff, Nat.reduceAdd, Nat.reduceLeDiff, Nat.reduceMul, Nat.reduceSub, Int.reduceLT, Int.reduceLE, Int.reduceEq, Int.reduceAdd, Int.reduceNeg, reduceIte, reduceCtorEq, Nat.reduceLT]
  simp only [isDig]
theorem sp_contains (a b : ByteArray) (h : a.size < 4294967281) : Sp theEnv 128 [.str a, .str b] (.bool (Lib.contains a.data.toList b.data.toList)) := {
  s S := ⟨1, fun j hj => by
    obtain ⟨j, rfl⟩ : ∃ m, j = m + 1 := ⟨j - 1, by omega⟩
    have hx : theEnv.ext 128 = some containsH := rfl
    simp only [callN, callBody, hx, containsH, h, if_true]⟩
  a := rfl
  l := fun _ => by simp only [go_sem, Nat.reduceEqDiff, Nat.reduceAdd, Nat.reduceLeDiff, Nat.reduceMul, Nat.reduceSub, Int.reduceLT, Int.reduceLE, Int.reduceEq, Int.reduceAdd, Int.reduceNeg, reduceIte, reduceCtorEq, Nat.reduceLT] }
def chOk (b : UInt8) : Bool := isLet b.toNat || isDig b.toNat
def resWords : List ByteArray := [⟨#[97, 110, 100]⟩, ⟨#[111, 114]⟩, ⟨#[116, 114, 117, 101]⟩, ⟨#[102, 97, 108, 115, 101]⟩, ⟨#[102, 111, 114]⟩, ⟨#[116, 111]⟩, ⟨#[115, 116, 101, 112]⟩, ⟨#[105, 102]⟩, ⟨#[101, 108, 115, 101]⟩, ⟨#[109, 105, 110]⟩, ⟨#[109, 97, 120]⟩, ⟨#[102, 108, 111, 111, 114]⟩, ⟨#[99, 101, 105, 108]⟩, ⟨#[97, 114, 114, 97, 121]⟩, ⟨#[112, 97, 114, 97, 109]⟩, ⟨#[112, 97, 114, 97, 108, 108, 101, 108]⟩, ⟨#[118, 101, 99, 116, 111, 114]⟩]
def resText : ByteArray := ⟨#[32, 97, 110, 100, 32, 111, 114, 32, 116, 114, 117, 101, 32, 102, 97, 108, 115, 101, 32, 102, 111, 114, 32, 116, 111, 32, 115, 116, 101, 112, 32, 105, 102, 32, 101, 108, 115, 101, 32, 109, 105, 110, 32, 109, 97, 120, 32, 102, 108, 111, 111, 114, 32, 99, 101, 105, 108, 32, 97, 114, 114, 97, 121, 32, 112, 97, 114, 97, 109, 32, 112, 97, 114, 97, 108, 108, 101, 108, 32, 118, 101, 99, 116, 111, 114, 32]⟩
def vName (s : ByteArray) : Bool :=
  match s.data.toList with
  | [] => false
  | b :: _ => decide ((s.size : Int) ≤ 12) && isLet b.toNat && s.data.toList.all chOk && resWords.all fun w => !decide (s = w)
theorem size_list (s : ByteArray) : s.data.toList.length = s.size := Array.length_toList
theorem bin_cat {tk : Nat} {a b : ByteArray} (h : a.size + b.size ≤ 140737488355328) : bin .add tk (.str a) (.str b) = some (.str (a ++ b)) := by simp only [bin, h, if_true]
/-- What the program asks of a text instead. -/
def vName' (s : ByteArray) : Bool :=
  match s.data.toList with
  | [] => false
  | b :: _ => decide ((s.size : Int) ≤ 12) && isLet b.toNat && s.data.toList.all chOk && !Lib.contains resText.data.toList ((⟨#[32]⟩ ++ s) ++ ⟨#[32]⟩ : ByteArray).data.toList
theorem name_set' (s : ByteArray) : Sp theEnv 96 [.str s] (.bool (vName' s)) := by
  cases hl : s.data.toList with
  | nil =>
    have he : s = ⟨#[]⟩ := by cases s; simp at hl; rw [hl]
    refine Sp.fn rfl rfl rfl (by simp only [go_sem, Nat.reduceEqDiff, Nat.reduceAdd, Nat.reduceLeDiff, Nat.reduceMul, Nat.reduceSub, Int.reduceLT, Int.reduceLE, Int.reduceEq, Int.reduceAdd, Int.reduceNeg, reduceIte, reduceCtorEq, Nat.reduceLT]) (by simp only [go_sem, Nat.reduceEqDiff, Nat.reduceAdd, Nat.reduceLeDiff, Nat.reduceMul, Nat.reduceSub, Int.reduceLT, Int.reduceLE, Int.reduceEq, Int.reduceAdd, Int.reduceNeg, reduceIte, reduceCtorEq, Nat.reduceLT, implies_true]) fun S => ?_; simp only [a96, c96, go_sem, Nat.reduceEqDiff, Nat.reduceAdd, Nat.reduceLeDiff, Nat.reduceMul, Nat.reduceSub, Int.reduceLT, Int.reduceLE, Int.reduceEq, Int.reduceAdd, Int.reduceNeg, reduceIte, reduceCtorEq, Nat.reduceLT]
    simp only [go_sem, Nat.reduceEqDiff, Nat.reduceAdd, Nat.reduceLeDiff, Nat.reduceMul, Nat.reduceSub, Int.reduceLT, Int.reduceLE, Int.reduceEq, Int.reduceAdd, Int.reduceNeg, reduceIte, reduceCtorEq, Nat.reduceLT, he, Run_if]
    rfl
  | cons b bs =>
    have hne : ¬ s = ⟨#[]⟩ := by rintro rfl; simp at hl
    have h0 : s.data.toList[0]? = some b := by rw [hl]; rfl
    refine Sp.fn rfl rfl rfl (by simp only [go_sem, Nat.reduceEqDiff, Nat.reduceAdd, Nat.reduceLeDiff, Nat.reduceMul, Nat.reduceSub, Int.reduceLT, Int.reduceLE, Int.reduceEq, Int.reduceAdd, Int.reduceNeg, reduceIte, reduceCtorEq, Nat.reduceLT]) (by simp only [go_sem, Nat.reduceEqDiff, Nat.reduceAdd, Nat.reduceLeDiff, Nat.reduceMul, Nat.reduceSub, Int.reduceLT, Int.reduceLE, Int.reduceEq, Int.reduceAdd, Int.reduceNeg, reduceIte, reduceCtorEq, Nat.reduceLT, implies_true]) fun S => ?_; simp only [a96, c96, go_sem, Nat.reduceEqDiff, Nat.reduceAdd, Nat.reduceLeDiff, Nat.reduceMul, Nat.reduceSub, Int.reduceLT, Int.reduceLE, Int.reduceEq, Int.reduceAdd, Int.reduceNeg, reduceIte, reduceCtorEq, Nat.reduceLT]
    simp only [go_sem, Nat.reduceEqDiff, Nat.reduceAdd, Nat.reduceLeDiff, Nat.reduceMul, Nat.reduceSub, Int.reduceLT, Int.reduceLE, Int.reduceEq, Int.reduceAdd, Int.reduceNeg, reduceIte, reduceCtorEq, Nat.reduceLT, hne, sxO_zero h0, (let_set _).callG]
    rw [Run_if]
    simp only [go_sem, Nat.reduceEqDiff, Nat.reduceAdd, Nat.reduceLeDiff, Nat.reduceMul, Nat.reduceSub, Int.reduceLT, Int.reduceLE, Int.reduceEq, Int.reduceAdd, Int.reduceNeg, reduceIte, reduceCtorEq, Nat.reduceLT]
    split
    · simp only [go_sem, Nat.reduceEqDiff, Nat.reduceAdd, Nat.reduceLeDiff, Nat.reduceMul, Nat.reduceSub, Int.reduceLT, Int.reduceLE, Int.reduceEq, Int.reduceAdd, Int.reduceNeg, reduceIte, reduceCtorEq, Nat.reduceLT, vName', hl]
      grind
    · rename_i hc
      have hsz : s.size ≤ 12 := by grind
      refine Run_all s.data.toList chOk (fun S' => S' = _) [0] (by rw [size_list]; omega) (by simp only [go_sem, Nat.reduceEqDiff, Nat.reduceAdd, Nat.reduceLeDiff, Nat.reduceMul, Nat.reduceSub, Int.reduceLT, Int.reduceLE, Int.reduceEq, Int.reduceAdd, Int.reduceNeg, reduceIte, reduceCtorEq, Nat.reduceLT]) (by simp only [go_sem, Nat.reduceEqDiff, Nat.reduceAdd, Nat.reduceLeDiff, Nat.reduceMul, Nat.reduceSub, Int.reduceLT, Int.reduceLE, Int.reduceEq, Int.reduceAdd, Int.reduceNeg, reduceIte, reduceCtorEq, Nat.reduceLT, size_list]) rfl rfl rfl (by simp only [go_sem, Nat.reduceEqDiff, Nat.reduceAdd, Nat.reduceLeDiff, Nat.reduceMul, Nat.reduceSub, Int.reduceLT, Int.reduceLE, Int.reduceEq, Int.reduceAdd, Int.reduceNeg, reduceIte, reduceCtorEq, Nat.reduceLT]) rfl ?_ ?_
      · rintro k F _ c hc hm rfl hi hkept hall
        simp only [go_sem, Nat.reduceEqDiff, Nat.reduceAdd, Nat.reduceLeDiff, Nat.reduceMul, Nat.reduceSub, Int.reduceLT, Int.reduceLE, Int.reduceEq, Int.reduceAdd, Int.reduceNeg, reduceIte, reduceCtorEq, Nat.reduceLT] at hkept
        simp only [go_sem, Nat.reduceEqDiff, Nat.reduceAdd, Nat.reduceLeDiff, Nat.reduceMul, Nat.reduceSub, Int.reduceLT, Int.reduceLE, Int.reduceEq, Int.reduceAdd, Int.reduceNeg, reduceIte, reduceCtorEq, Nat.reduceLT, hkept, hi, sxO_at hc, (let_set _).call, (dig_set _).callG, Run_if, vName', hl]
        rw [hl] at hall
        grind [chOk]
      · rintro F _ hall rfl hkept
        simp only [go_sem, Nat.reduceEqDiff, Nat.reduceAdd, Nat.reduceLeDiff, Nat.reduceMul, Nat.reduceSub, Int.reduceLT, Int.reduceLE, Int.reduceEq, Int.reduceAdd, Int.reduceNeg, reduceIte, reduceCtorEq, Nat.reduceLT] at hkept
        have hcall := sp_contains resText ((⟨#[32]⟩ ++ s) ++ ⟨#[32]⟩) (by decide)
        unfold resText at hcall
        have h1 : (⟨#[32]⟩ : ByteArray).size = 1 := rfl
        have h2 : (⟨#[32]⟩ ++ s : ByteArray).size = s.size + 1 := by rw [ByteArray.size_append, h1]; omega
        simp only [go_sem, Nat.reduceEqDiff, Nat.reduceAdd, Nat.reduceLeDiff, Nat.reduceMul, Nat.reduceSub, Int.reduceLT, Int.reduceLE, Int.reduceEq, Int.reduceAdd, Int.reduceNeg, reduceIte, reduceCtorEq, Nat.reduceLT, hkept, bin_cat (show (⟨#[32]⟩ : ByteArray).size + s.size ≤ 140737488355328 by omega), bin_cat (show (⟨#[32]⟩ ++ s : ByteArray).size + (⟨#[32]⟩ : ByteArray).size ≤ 140737488355328 by omega), hcall.call, vName', hl]
        rw [hl] at hall
        rw [hall]
        unfold resText
        grind

/-! ### The two ways of asking for a reserved word agree -/
def cat : List (List UInt8) → List UInt8
  | [] => [32]
  | w :: ws => 32 :: (w ++ cat ws)
theorem contains_nil (c : UInt8) (t : List UInt8) : Lib.contains [] (c :: t) = false := rfl
theorem contains_cons (b : UInt8) (l sub : List UInt8) : Lib.contains (b :: l) sub = (sub.isPrefixOf (b :: l) || Lib.contains l sub) := by
  have h := Lib.index_ge l sub
  unfold Lib.contains
  rw [Lib.index]
  by_cases hp : sub.isPrefixOf (b :: l) = true
  · simp [hp]
  · simp only [hp, Bool.false_eq_true, if_false, Bool.false_or]
    by_cases hi : Lib.index l sub = -1
    · simp [hi]
    · have : (Lib.index l sub == -1) = false := by simpa using hi
      simp only [this, Bool.false_eq_true, if_false]
      rw [decide_eq_decide]
      omega
theorem contains_skip {t l : List UInt8} : ∀ {w : List UInt8}, (∀ b ∈ w, b ≠ 32) → Lib.contains (w ++ l) (32 :: t) = Lib.contains l (32 :: t)
  | [], _ => rfl
  | b :: w, h => by
    rw [List.cons_append, contains_cons, contains_skip fun c hc => h c (List.mem_cons_of_mem _ hc)]
    have : ((32 : UInt8) == b) = false := by simpa using (h b List.mem_cons_self).symm
    simp [List.isPrefixOf, this]
theorem prefix_word {l : List UInt8} : ∀ {s w : List UInt8}, (∀ b ∈ s, b ≠ 32) → (∀ b ∈ w, b ≠ 32) → (s ++ [32]).isPrefixOf (w ++ 32 :: l) = decide (s = w)
  | [], [], _, _ => by simp [List.isPrefixOf]
  | [], b :: w, _, h => by
    have : ((32 : UInt8) == b) = false := by simpa using (h b List.mem_cons_self).symm
    simp [List.isPrefixOf, this]
  | b :: s, [], h, _ => by
    have : (b == (32 : UInt8)) = false := by simpa using h b List.mem_cons_self
    simp [List.isPrefixOf, this]
  | b :: s, c :: w, h1, h2 => by
    have ih := prefix_word (l := l) (s := s) (w := w) (fun d hd => h1 d (List.mem_cons_of_mem _ hd)) (fun d hd => h2 d (List.mem_cons_of_mem _ hd))
    simp only [List.cons_append, List.isPrefixOf, ih]
    by_cases hb : b = c
    · subst hb; simp
    · simp [hb]
theorem cat_head : ∀ ws, ∃ l, cat ws = 32 :: l
  | [] => ⟨[], rfl⟩
  | w :: ws => ⟨_, rfl⟩
theorem contains_cat {s : List UInt8} (hs : ∀ b ∈ s, b ≠ 32) : ∀ {ws : List (List UInt8)}, (∀ w ∈ ws, ∀ b ∈ w, b ≠ 32) → Lib.contains (cat ws) (32 :: (s ++ [32])) = ws.any fun w => decide (s = w)
  | [], _ => by
    rw [cat, contains_cons, contains_nil]
    cases s <;> simp [List.isPrefixOf]
  | w :: ws, h => by
    obtain ⟨l, hl⟩ := cat_head ws
    rw [cat, contains_cons, contains_skip (h w List.mem_cons_self), contains_cat hs fun v hv => h v (List.mem_cons_of_mem _ hv)]
    simp only [List.isPrefixOf, beq_self_eq_true, Bool.true_and, List.any_cons]
    rw [hl, prefix_word hs (h w List.mem_cons_self)]
theorem res_cat : resText.data.toList = cat (resWords.map fun w => w.data.toList) := rfl
theorem res_no32 : ∀ w ∈ resWords.map (fun w => w.data.toList), ∀ b ∈ w, b ≠ 32 := by decide
theorem ba_ext {a b : ByteArray} : a.data.toList = b.data.toList ↔ a = b := by
  constructor
  · intro h
    cases a; cases b
    simp only [ByteArray.mk.injEq]
    exact Array.ext' h
  · rintro rfl; rfl
theorem vName_eq (s : ByteArray) : vName' s = vName s := by
  unfold vName' vName
  cases hl : s.data.toList with
  | nil => rfl
  | cons b bs =>
    simp only
    cases hall : (b :: bs).all chOk with
    | false => simp only [Bool.and_false, Bool.false_and]
    | true =>
      have hno : ∀ b ∈ s.data.toList, b ≠ 32 := by
        rw [hl]
        intro c hc
        have := List.all_eq_true.1 hall c hc
        rintro rfl
        exact absurd this (by decide)
      have hcat : ((⟨#[32]⟩ ++ s) ++ ⟨#[32]⟩ : ByteArray).data.toList = 32 :: (s.data.toList ++ [32]) := by simp
      rw [hcat, res_cat, contains_cat hno res_no32]
      congr 1
      rw [List.any_map, List.not_any_eq_all_not]
      congr 1
      funext w
      simp only [Function.comp, ba_ext]
theorem name_set (s : ByteArray) : Sp theEnv 96 [.str s] (.bool (vName s)) := vName_eq s ▸ name_set' s

theorem words_ref : Sp theEnv 102 [] (.slice (.own 9) (resWords.map encS)) := by
  refine Sp.fn rfl rfl rfl (by simp only [go_sem, Nat.reduceEqDiff, Nat.reduceAdd, Nat.reduceLeDiff, Nat.reduceMul, Nat.reduceSub, Int.reduceLT, Int.reduceLE, Int.reduceEq, Int.reduceAdd, Int.reduceNeg, reduceIte, reduceCtorEq, Nat.reduceLT]) (by simp only [go_sem, Nat.reduceEqDiff, Nat.reduceAdd, Nat.reduceLeDiff, Nat.reduceMul, Nat.reduceSub, Int.reduceLT, Int.reduceLE, Int.reduceEq, Int.reduceAdd, Int.reduceNeg, reduceIte, reduceCtorEq, Nat.reduceLT, implies_true]) fun S => ?_; simp only [a102, c102, go_sem, Nat.reduceEqDiff, Nat.reduceAdd, Nat.reduceLeDiff, Nat.reduceMul, Nat.reduceSub, Int.reduceLT, Int.reduceLE, Int.reduceEq, Int.reduceAdd, Int.reduceNeg, reduceIte, reduceCtorEq, Nat.reduceLT]
  rfl
theorem name_ref (s : ByteArray) : Sp theEnv 69 [.str s] (.bool (vName s)) := by
  cases hl : s.data.toList with
  | nil =>
    have he : s = ⟨#[]⟩ := by cases s; simp at hl; rw [hl]
    refine Sp.fn rfl rfl rfl (by simp only [go_sem, Nat.reduceEqDiff, Nat.reduceAdd, Nat.reduceLeDiff, Nat.reduceMul, Nat.reduceSub, Int.reduceLT, Int.reduceLE, Int.reduceEq, Int.reduceAdd, Int.reduceNeg, reduceIte, reduceCtorEq, Nat.reduceLT]) (by simp only [go_sem, Nat.reduceEqDiff, Nat.reduceAdd, Nat.reduceLeDiff, Nat.reduceMul, Nat.reduceSub, Int.reduceLT, Int.reduceLE, Int.reduceEq, Int.reduceAdd, Int.reduceNeg, reduceIte, reduceCtorEq, Nat.reduceLT, implies_true]) fun S => ?_; simp only [a69, c69, go_sem, Nat.reduceEqDiff, Nat.reduceAdd, Nat.reduceLeDiff, Nat.reduceMul, Nat.reduceSub, Int.reduceLT, Int.reduceLE, Int.reduceEq, Int.reduceAdd, Int.reduceNeg, reduceIte, reduceCtorEq, Nat.reduceLT]
    simp only [go_sem, Nat.reduceEqDiff, Nat.reduceAdd, Nat.reduceLeDiff, Nat.reduceMul, Nat.reduceSub, Int.reduceLT, Int.reduceLE, Int.reduceEq, Int.reduceAdd, Int.reduceNeg, reduceIte, reduceCtorEq, Nat.reduceLT, he, Run_if]
    rfl
  | cons b bs =>
    have hne : ¬ s = ⟨#[]⟩ := by rintro rfl; simp at hl
    have h0 : s.data.toList[0]? = some b := by rw [hl]; rfl
    refine Sp.fn rfl rfl rfl (by simp only [go_sem, Nat.reduceEqDiff, Nat.reduceAdd, Nat.reduceLeDiff, Nat.reduceMul, Nat.reduceSub, Int.reduceLT, Int.reduceLE, Int.reduceEq, Int.reduceAdd, Int.reduceNeg, reduceIte, reduceCtorEq, Nat.reduceLT]) (by simp only [go_sem, Nat.reduceEqDiff, Nat.reduceAdd, Nat.reduceLeDiff, Nat.reduceMul, Nat.reduceSub, Int.reduceLT, Int.reduceLE, Int.reduceEq, Int.reduceAdd, Int.reduceNeg, reduceIte, reduceCtorEq, Nat.reduceLT, implies_true]) fun S => ?_; simp only [a69, c69, go_sem, Nat.reduceEqDiff, Nat.reduceAdd, Nat.reduceLeDiff, Nat.reduceMul, Nat.reduceSub, Int.reduceLT, Int.reduceLE, Int.reduceEq, Int.reduceAdd, Int.reduceNeg, reduceIte, reduceCtorEq, Nat.reduceLT]
    simp only [go_sem, Nat.reduceEqDiff, Nat.reduceAdd, Nat.reduceLeDiff, Nat.reduceMul, Nat.reduceSub, Int.reduceLT, Int.reduceLE, Int.reduceEq, Int.reduceAdd, Int.reduceNeg, reduceIte, reduceCtorEq, Nat.reduceLT, hne, sxO_zero h0, (let_ref _).callG]
    rw [Run_if]
    simp only [go_sem, Nat.reduceEqDiff, Nat.reduceAdd, Nat.reduceLeDiff, Nat.reduceMul, Nat.reduceSub, Int.reduceLT, Int.reduceLE, Int.reduceEq, Int.reduceAdd, Int.reduceNeg, reduceIte, reduceCtorEq, Nat.reduceLT]
    split
    · simp only [go_sem, Nat.reduceEqDiff, Nat.reduceAdd, Nat.reduceLeDiff, Nat.reduceMul, Nat.reduceSub, Int.reduceLT, Int.reduceLE, Int.reduceEq, Int.reduceAdd, Int.reduceNeg, reduceIte, reduceCtorEq, Nat.reduceLT, vName, hl]
      grind
    · rename_i hc
      have hsz : s.size ≤ 12 := by grind
      refine Run_loop [0] (fun n F S' => ∃ i, n + i = s.size ∧ F 3 = .int .i64 (i : Int) ∧ S' = ⟨[], none⟩ :: S ∧ ∀ m x, m < i → s.data.toList[m]? = some x → chOk x = true) s.size rfl (by simp only [go_sem, Nat.reduceEqDiff, Nat.reduceAdd, Nat.reduceLeDiff, Nat.reduceMul, Nat.reduceSub, Int.reduceLT, Int.reduceLE, Int.reduceEq, Int.reduceAdd, Int.reduceNeg, reduceIte, reduceCtorEq, Nat.reduceLT]) ⟨0, by omega, by simp only [go_sem, Nat.reduceEqDiff, Nat.reduceAdd, Nat.reduceLeDiff, Nat.reduceMul, Nat.reduceSub, Int.reduceLT, Int.reduceLE, Int.reduceEq, Int.reduceAdd, Int.reduceNeg, reduceIte, reduceCtorEq, Nat.reduceLT], rfl, by simp⟩ ?_
      rintro n F _ ⟨i, hn, hi, rfl, hall⟩ hkept
      simp only [go_sem, Nat.reduceEqDiff, Nat.reduceAdd, Nat.reduceLeDiff, Nat.reduceMul, Nat.reduceSub, Int.reduceLT, Int.reduceLE, Int.reduceEq, Int.reduceAdd, Int.reduceNeg, reduceIte, reduceCtorEq, Nat.reduceLT] at hkept
      by_cases hlt : i < s.size
      · obtain ⟨x, hx⟩ : ∃ x, s.data.toList[i]? = some x := ⟨s.data.toList[i]'(by rw [size_list]; exact hlt), List.getElem?_eq_getElem _⟩
        simp only [go_sem, Nat.reduceEqDiff, Nat.reduceAdd, Nat.reduceLeDiff, Nat.reduceMul, Nat.reduceSub, Int.reduceLT, Int.reduceLE, Int.reduceEq, Int.reduceAdd, Int.reduceNeg, reduceIte, reduceCtorEq, Nat.reduceLT, hkept, hi, hlt, sxO_at hx, (let_ref _).call, (dig_ref _).callG, Run_if, wrap_succ (show i < 9223372036854775807 by omega)]
        split
        · rename_i h
          have : s.data.toList.all chOk = false := List.all_eq_false.2 ⟨x, List.mem_of_getElem? hx, by simp only [chOk]; grind⟩
          simp only [vName, hl]
          rw [hl] at this
          simp only [go_sem, Nat.reduceEqDiff, Nat.reduceAdd, Nat.reduceLeDiff, Nat.reduceMul, Nat.reduceSub, Int.reduceLT, Int.reduceLE, Int.reduceEq, Int.reduceAdd, Int.reduceNeg, reduceIte, reduceCtorEq, Nat.reduceLT, this]
        · rename_i h
          refine ⟨n - 1, by omega, i + 1, by omega, rfl, fun m y hm hy => ?_⟩
          rcases Nat.lt_succ_iff_lt_or_eq.1 hm with h1 | h1
          · exact hall m y h1 hy
          · subst h1; rw [hx] at hy; cases hy; simp only [chOk]; grind
      · have hal : s.data.toList.all chOk = true := List.all_eq_true.2 fun x hx => by
          obtain ⟨m, hm⟩ := List.mem_iff_getElem?.1 hx
          exact hall m x (by have := (List.getElem?_eq_some_iff.1 hm).1; rw [size_list] at this; omega) hm
        simp only [go_sem, Nat.reduceEqDiff, Nat.reduceAdd, Nat.reduceLeDiff, Nat.reduceMul, Nat.reduceSub, Int.reduceLT, Int.reduceLE, Int.reduceEq, Int.reduceAdd, Int.reduceNeg, reduceIte, reduceCtorEq, Nat.reduceLT, hkept, hi, hlt, words_ref.call]
        refine Run_all resWords (fun w => !decide (s = w)) (fun S' => S' = _) [0, 37] (by decide) (by simp only [go_sem, Nat.reduceEqDiff, Nat.reduceAdd, Nat.reduceLeDiff, Nat.reduceMul, Nat.reduceSub, Int.reduceLT, Int.reduceLE, Int.reduceEq, Int.reduceAdd, Int.reduceNeg, reduceIte, reduceCtorEq, Nat.reduceLT]) (by simp only [go_sem, Nat.reduceEqDiff, Nat.reduceAdd, Nat.reduceLeDiff, Nat.reduceMul, Nat.reduceSub, Int.reduceLT, Int.reduceLE, Int.reduceEq, Int.reduceAdd, Int.reduceNeg, reduceIte, reduceCtorEq, Nat.reduceLT]) rfl rfl rfl (by simp only [go_sem, Nat.reduceEqDiff, Nat.reduceAdd, Nat.reduceLeDiff, Nat.reduceMul, Nat.reduceSub, Int.reduceLT, Int.reduceLE, Int.reduceEq, Int.reduceAdd, Int.reduceNeg, reduceIte, reduceCtorEq, Nat.reduceLT, hkept]) rfl ?_ ?_
        · rintro k F' _ w hw hm rfl hi2 hkept2 hall2
          simp only [go_sem, Nat.reduceEqDiff, Nat.reduceAdd, Nat.reduceLeDiff, Nat.reduceMul, Nat.reduceSub, Int.reduceLT, Int.reduceLE, Int.reduceEq, Int.reduceAdd, Int.reduceNeg, reduceIte, reduceCtorEq, Nat.reduceLT, hkept] at hkept2 hall2
          simp only [go_sem, Nat.reduceEqDiff, Nat.reduceAdd, Nat.reduceLeDiff, Nat.reduceMul, Nat.reduceSub, Int.reduceLT, Int.reduceLE, Int.reduceEq, Int.reduceAdd, Int.reduceNeg, reduceIte, reduceCtorEq, Nat.reduceLT, hkept2, hi2, iaO_map hw, Run_if, vName, hl]
          grind
        · rintro F' _ hall2 rfl hkept2
          simp only [go_sem, Nat.reduceEqDiff, Nat.reduceAdd, Nat.reduceLeDiff, Nat.reduceMul, Nat.reduceSub, Int.reduceLT, Int.reduceLE, Int.reduceEq, Int.reduceAdd, Int.reduceNeg, reduceIte, reduceCtorEq, Nat.reduceLT, vName, hl, hall2]
          rw [hl] at hal
          grind
end Wp
end AM
end Go.Proofs.Ytimfbnojmdnlnaa
