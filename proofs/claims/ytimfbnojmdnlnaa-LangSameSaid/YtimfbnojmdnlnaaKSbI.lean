/- Check, whole. -/
import Derived.Test.YtimfbnojmdnlnaaKSbH
set_option linter.unusedVariables false
set_option linter.unusedSimpArgs false
set_option maxRecDepth 100000
namespace Go.Proofs.Ytimfbnojmdnlnaa
namespace AM
namespace Wp
def hPar : List ByteArray → List ByteArray → Bool
  | _, [] => true
  | acc, s :: l => vName s && isNew acc s && hPar (acc ++ [s]) l
def hArr (n : Int) : List ByteArray → List Arr → Bool
  | _, [] => true
  | acc, a :: l => (vName a.name && isNew acc a.name && decide ((a.sizes.length : Int) ≤ 3)) && a.sizes.all (vOverL n) && hArr n (acc ++ [a.name]) l
def vHead (p : Prg) : Bool := (decide ((p.params.length : Int) ≤ 2) && decide ((p.arrays.length : Int) ≤ 8)) && hPar [] p.params && hArr p.params.length p.params p.arrays
theorem hPar_app : ∀ {xs acc ys : List ByteArray}, hPar acc (xs ++ ys) = (hPar acc xs && hPar (acc ++ xs) ys)
  | [], acc, ys => by simp [hPar]
  | x :: xs, acc, ys => by
    simp only [List.cons_append, hPar, hPar_app (xs := xs), Bool.and_assoc, List.append_assoc]
    rfl
theorem hArr_app {n : Int} : ∀ {xs ys : List Arr} {acc : List ByteArray}, hArr n acc (xs ++ ys) = (hArr n acc xs && hArr n (acc ++ xs.map (·.name)) ys)
  | [], ys, acc => by simp [hArr]
  | x :: xs, ys, acc => by
    simp only [List.cons_append, hArr, hArr_app (xs := xs), Bool.and_assoc, List.append_assoc, List.map_cons]
    rfl
theorem cut_at {α : Type} {l : List α} {k : Nat} {x : α} (h : l[k]? = some x) : l = l.take k ++ (x :: l.drop (k + 1)) := by
  have h1 := (List.getElem?_eq_some_iff.1 h).2
  rw [← h1, List.getElem_cons_drop, List.take_append_drop]
theorem cat_snoc {l : List ByteArray} {s : ByteArray} : l.map encS ++ [[.str s]] = (l ++ [s]).map encS := by simp [encS]
theorem le_lim {n : Nat} (h : n ≤ 1000000) : n ≤ LIM := Nat.le_trans h (by decide)
theorem head_ok {p : Prg} {st : Int} {S : St} {l ci : Nat} (hp : OkPrg p) (hb : getBox S l ci = some (encChk p st)) : CallIs theEnv (.fn 30) [.ptr l ci 0] S (outIf (vHead p)) S := by
  refine CallIs.fn rfl rfl rfl ?_
  have g1 := fun T => getBox_up (T := T) hb
  simp only [a30, c30, go_sem, Nat.reduceEqDiff, Nat.reduceAdd, Nat.reduceLeDiff, Nat.reduceMul, Nat.reduceSub, Int.reduceLT, Int.reduceLE, Int.reduceEq, Int.reduceAdd, Int.reduceNeg, reduceIte, reduceCtorEq, Nat.reduceLT, g1, (need_ok _).call]
  split
  · rename_i hlen
    refine Run_range p.params.length [0, 30] [2] (fun k vs S' => vs = [grown 9 ((p.params.take k).map encS)] ∧ S' = ⟨[], none⟩ :: S ∧ hPar [] (p.params.take k) = true) hp.pl (by simp only [go_sem, Nat.reduceEqDiff, Nat.reduceAdd, Nat.reduceLeDiff, Nat.reduceMul, Nat.reduceSub, Int.reduceLT, Int.reduceLE, Int.reduceEq, Int.reduceAdd, Int.reduceNeg, reduceIte, reduceCtorEq, Nat.reduceLT]) (by simp only [go_sem, Nat.reduceEqDiff, Nat.reduceAdd, Nat.reduceLeDiff, Nat.reduceMul, Nat.reduceSub, Int.reduceLT, Int.reduceLE, Int.reduceEq, Int.reduceAdd, Int.reduceNeg, reduceIte, reduceCtorEq, Nat.reduceLT]) rfl rfl rfl rfl (by simp only [go_sem, Nat.reduceEqDiff, Nat.reduceAdd, Nat.reduceLeDiff, Nat.reduceMul, Nat.reduceSub, Int.reduceLT, Int.reduceLE, Int.reduceEq, Int.reduceAdd, Int.reduceNeg, reduceIte, reduceCtorEq, Nat.reduceLT]) ⟨by simp only [go_sem, Nat.reduceEqDiff, Nat.reduceAdd, Nat.reduceLeDiff, Nat.reduceMul, Nat.reduceSub, Int.reduceLT, Int.reduceLE, Int.reduceEq, Int.reduceAdd, Int.reduceNeg, reduceIte, reduceCtorEq, Nat.reduceLT, List.take_zero, grown_nil], rfl, rfl⟩ ?_ ?_
    · rintro k F _ hk ⟨hv, rfl, hok⟩ hi hkept
      simp only [go_sem, Nat.reduceEqDiff, Nat.reduceAdd, Nat.reduceLeDiff, Nat.reduceMul, Nat.reduceSub, Int.reduceLT, Int.reduceLE, Int.reduceEq, Int.reduceAdd, Int.reduceNeg, reduceIte, reduceCtorEq, Nat.reduceLT] at hkept hv
      obtain ⟨s, hsk⟩ : ∃ s, p.params[k]? = some s := ⟨p.params[k], List.getElem?_eq_getElem hk⟩
      have hkl : (p.params.take k).length = k := by simp; omega
      have happ := appO_grown (e := 9) (n := 1) (b := 16) (k := .own 9) (xs := (p.params.take k).map encS) (ys := [[.str s]]) rfl (by simp; omega) (by simp; omega)
      simp only [go_sem, Nat.reduceEqDiff, Nat.reduceAdd, Nat.reduceLeDiff, Nat.reduceMul, Nat.reduceSub, Int.reduceLT, Int.reduceLE, Int.reduceEq, Int.reduceAdd, Int.reduceNeg, reduceIte, reduceCtorEq, Nat.reduceLT, hkept, hi, hv, iaO_map hsk, (named_ok _ (p.params.take k) s (le_lim (by omega))).call, (need_ok _).call, happ, cat_snoc, take_snoc hsk, hPar_app, hok]
      have hfail : (vName s && isNew (p.params.take k) s) = false → vHead p = false := fun h => by
        have : hPar [] p.params = false := by
          rw [cut_at hsk, hPar_app, hok, Bool.true_and, List.nil_append, hPar]
          rw [h]; rfl
        simp only [vHead, this, Bool.and_false, Bool.false_and]
      simp only [hPar, Bool.and_true]
      grind
    · rintro F _ ⟨hv, rfl, hok⟩ hkept
      simp only [go_sem, Nat.reduceEqDiff, Nat.reduceAdd, Nat.reduceLeDiff, Nat.reduceMul, Nat.reduceSub, Int.reduceLT, Int.reduceLE, Int.reduceEq, Int.reduceAdd, Int.reduceNeg, reduceIte, reduceCtorEq, Nat.reduceLT] at hkept hv
      rw [List.take_length] at hok hv
      simp only [go_sem, Nat.reduceEqDiff, Nat.reduceAdd, Nat.reduceLeDiff, Nat.reduceMul, Nat.reduceSub, Int.reduceLT, Int.reduceLE, Int.reduceEq, Int.reduceAdd, Int.reduceNeg, reduceIte, reduceCtorEq, Nat.reduceLT, hkept, hv, g1]
      refine Run_range p.arrays.length [0, 49] [2] (fun k vs S' => vs = [grown 9 ((p.params ++ (p.arrays.take k).map (·.name)).map encS)] ∧ (∃ B, S' = ⟨B, none⟩ :: S) ∧ hArr p.params.length p.params (p.arrays.take k) = true) hp.al (by simp only [go_sem, Nat.reduceEqDiff, Nat.reduceAdd, Nat.reduceLeDiff, Nat.reduceMul, Nat.reduceSub, Int.reduceLT, Int.reduceLE, Int.reduceEq, Int.reduceAdd, Int.reduceNeg, reduceIte, reduceCtorEq, Nat.reduceLT]) (by simp only [go_sem, Nat.reduceEqDiff, Nat.reduceAdd, Nat.reduceLeDiff, Nat.reduceMul, Nat.reduceSub, Int.reduceLT, Int.reduceLE, Int.reduceEq, Int.reduceAdd, Int.reduceNeg, reduceIte, reduceCtorEq, Nat.reduceLT]) rfl rfl rfl rfl (by simp only [go_sem, Nat.reduceEqDiff, Nat.reduceAdd, Nat.reduceLeDiff, Nat.reduceMul, Nat.reduceSub, Int.reduceLT, Int.reduceLE, Int.reduceEq, Int.reduceAdd, Int.reduceNeg, reduceIte, reduceCtorEq, Nat.reduceLT, hkept]) ⟨by simp only [go_sem, Nat.reduceEqDiff, Nat.reduceAdd, Nat.reduceLeDiff, Nat.reduceMul, Nat.reduceSub, Int.reduceLT, Int.reduceLE, Int.reduceEq, Int.reduceAdd, Int.reduceNeg, reduceIte, reduceCtorEq, Nat.reduceLT, List.take_zero, hv], ⟨_, rfl⟩, rfl⟩ ?_ ?_
      · rintro k F' _ hk ⟨hv2, ⟨B, rfl⟩, hok2⟩ hi2 hkept2
        simp only [go_sem, Nat.reduceEqDiff, Nat.reduceAdd, Nat.reduceLeDiff, Nat.reduceMul, Nat.reduceSub, Int.reduceLT, Int.reduceLE, Int.reduceEq, Int.reduceAdd, Int.reduceNeg, reduceIte, reduceCtorEq, Nat.reduceLT, hkept] at hkept2 hv2
        obtain ⟨a, hak⟩ : ∃ a, p.arrays[k]? = some a := ⟨p.arrays[k], List.getElem?_eq_getElem hk⟩
        have ham := List.mem_of_getElem? hak
        have hao := hp.as a ham
        have hkl : (p.arrays.take k).length = k := by simp; omega
        have hkl2 : (p.params ++ (p.arrays.take k).map (·.name)).length ≤ 10 := by simp; omega
        have happ := appO_grown (e := 9) (n := 1) (b := 16) (k := .own 9) (xs := (p.params ++ (p.arrays.take k).map (·.name)).map encS) (ys := [[.str a.name]]) rfl (by rw [List.length_map]; simp only [List.length_singleton]; omega) (by rw [List.length_map]; simp only [List.length_singleton]; omega)
        simp only [go_sem, Nat.reduceEqDiff, Nat.reduceAdd, Nat.reduceLeDiff, Nat.reduceMul, Nat.reduceSub, Int.reduceLT, Int.reduceLE, Int.reduceEq, Int.reduceAdd, Int.reduceNeg, reduceIte, reduceCtorEq, Nat.reduceLT, hkept2, hi2, hv2, iaO_map hak, (named_ok _ (p.params ++ (p.arrays.take k).map (·.name)) a.name (le_lim (by omega))).call, (need_ok _).call, happ, cat_snoc]
        have hname : ∀ b : Bool, ((vName a.name && isNew (p.params ++ (p.arrays.take k).map (·.name)) a.name && decide ((a.sizes.length : Int) ≤ 3)) && b) = false → a.sizes.all (vOverL p.params.length) = b → vHead p = false := fun b h hb => by
          have : hArr p.params.length p.params p.arrays = false := by
            rw [cut_at hak, hArr_app, hok2, Bool.true_and, hArr, hb, h]; rfl
          simp only [vHead, this, Bool.and_false]
        split
        · rename_i hn
          refine Run_all a.sizes (vOverL p.params.length) (fun S' => ∃ B, S' = ⟨B, none⟩ :: S) [0, 2, 49, 51, 72] hao.l (by simp only [go_sem, Nat.reduceEqDiff, Nat.reduceAdd, Nat.reduceLeDiff, Nat.reduceMul, Nat.reduceSub, Int.reduceLT, Int.reduceLE, Int.reduceEq, Int.reduceAdd, Int.reduceNeg, reduceIte, reduceCtorEq, Nat.reduceLT, hkept2, hi2]) (by simp only [go_sem, Nat.reduceEqDiff, Nat.reduceAdd, Nat.reduceLeDiff, Nat.reduceMul, Nat.reduceSub, Int.reduceLT, Int.reduceLE, Int.reduceEq, Int.reduceAdd, Int.reduceNeg, reduceIte, reduceCtorEq, Nat.reduceLT, hkept2, hi2]) rfl rfl rfl (by simp only [go_sem, Nat.reduceEqDiff, Nat.reduceAdd, Nat.reduceLeDiff, Nat.reduceMul, Nat.reduceSub, Int.reduceLT, Int.reduceLE, Int.reduceEq, Int.reduceAdd, Int.reduceNeg, reduceIte, reduceCtorEq, Nat.reduceLT, hkept2, hi2]) ⟨_, rfl⟩ ?_ ?_
          · rintro k F2 _ x hx hm ⟨B, rfl⟩ hi3 hkept3 hall
            simp only [go_sem, Nat.reduceEqDiff, Nat.reduceAdd, Nat.reduceLeDiff, Nat.reduceMul, Nat.reduceSub, Int.reduceLT, Int.reduceLE, Int.reduceEq, Int.reduceAdd, Int.reduceNeg, reduceIte, reduceCtorEq, Nat.reduceLT, hkept2, hi2] at hkept3 hall
            simp only [go_sem, Nat.reduceEqDiff, Nat.reduceAdd, Nat.reduceLeDiff, Nat.reduceMul, Nat.reduceSub, Int.reduceLT, Int.reduceLE, Int.reduceEq, Int.reduceAdd, Int.reduceNeg, reduceIte, reduceCtorEq, Nat.reduceLT, hkept3, hi3, iaO_map hx, g1, (over_ok x _ (hao.s x hm)).call, (need_ok _).call]
            split
            · assumption
            · rename_i hx2
              intro _ _
              exact hname false (Bool.and_false _) (hall (by simpa using hx2))
          · rintro F2 _ hall ⟨B2, rfl⟩ hkept3
            simp only [go_sem, Nat.reduceEqDiff, Nat.reduceAdd, Nat.reduceLeDiff, Nat.reduceMul, Nat.reduceSub, Int.reduceLT, Int.reduceLE, Int.reduceEq, Int.reduceAdd, Int.reduceNeg, reduceIte, reduceCtorEq, Nat.reduceLT, hkept2] at hkept3
            simp only [go_sem, Nat.reduceEqDiff, Nat.reduceAdd, Nat.reduceLeDiff, Nat.reduceMul, Nat.reduceSub, Int.reduceLT, Int.reduceLE, Int.reduceEq, Int.reduceAdd, Int.reduceNeg, reduceIte, reduceCtorEq, Nat.reduceLT, hkept3]
            rw [take_snoc hak]
            refine ⟨by rw [List.map_append (l₂ := [a])]; rfl, ?_⟩
            rw [hArr_app, hok2, Bool.true_and, hArr, hArr, hall]
            simp only [hn.1.1, hn.1.2, hn.2, decide_true, Bool.and_true]
        · rename_i hn
          intro _
          refine hname _ ?_ rfl
          have : (vName a.name && isNew (p.params ++ (p.arrays.take k).map (·.name)) a.name && decide ((a.sizes.length : Int) ≤ 3)) = false := by
            rw [← Bool.not_eq_true]
            simpa only [Bool.and_eq_true, decide_eq_true_eq] using hn
          rw [this, Bool.false_and]
      · rintro F' _ ⟨hv2, ⟨B, rfl⟩, hok2⟩ hkept2
        rw [List.take_length] at hok2
        simp only [go_sem, Nat.reduceEqDiff, Nat.reduceAdd, Nat.reduceLeDiff, Nat.reduceMul, Nat.reduceSub, Int.reduceLT, Int.reduceLE, Int.reduceEq, Int.reduceAdd, Int.reduceNeg, reduceIte, reduceCtorEq, Nat.reduceLT, vHead, hok, hok2]
        exact hlen
  · simp only [vHead]
    grind

/-! ### Code without loops needs no more fuel than it is deep -/
def flat : ACode → Bool
  | .seq a b => flat a && flat b
  | .cond _ a b => flat a && flat b
  | .blk _ a => flat a
  | .loop _ => false
  | .rng .. => false
  | _ => true
def depth : ACode → Nat
  | .seq a b => max (depth a) (depth b) + 1
  | .cond _ a b => max (depth a) (depth b) + 1
  | .blk _ a => depth a + 1
  | _ => 1
theorem codeN_flat {meth : Nat → String → Option Nat} {cE : CE} : ∀ {c : ACode} {k k' : Nat} {F : Fr} {S : St}, flat c = true → depth c ≤ k → depth c ≤ k' → codeN meth cE k c F S = codeN meth cE k' c F S := by
  intro c
  induction c with
  | nop => intro k k' F S _ h h'; obtain ⟨k, rfl⟩ : ∃ m, k = m + 1 := ⟨k - 1, by simp only [depth] at h; omega⟩; obtain ⟨k', rfl⟩ : ∃ m, k' = m + 1 := ⟨k' - 1, by simp only [depth] at h'; omega⟩; rfl
  | reg bs => intro k k' F S _ h h'; obtain ⟨k, rfl⟩ : ∃ m, k = m + 1 := ⟨k - 1, by simp only [depth] at h; omega⟩; obtain ⟨k', rfl⟩ : ∃ m, k' = m + 1 := ⟨k' - 1, by simp only [depth] at h'; omega⟩; rfl
  | exit id => intro k k' F S _ h h'; obtain ⟨k, rfl⟩ : ∃ m, k = m + 1 := ⟨k - 1, by simp only [depth] at h; omega⟩; obtain ⟨k', rfl⟩ : ∃ m, k' = m + 1 := ⟨k' - 1, by simp only [depth] at h'; omega⟩; rfl
  | ret => intro k k' F S _ h h'; obtain ⟨k, rfl⟩ : ∃ m, k = m + 1 := ⟨k - 1, by simp only [depth] at h; omega⟩; obtain ⟨k', rfl⟩ : ∃ m, k' = m + 1 := ⟨k' - 1, by simp only [depth] at h'; omega⟩; rfl
  | seq a b iha ihb =>
    intro k k' F S hf h h'
    simp only [flat, Bool.and_eq_true] at hf
    simp only [depth] at h h'
    obtain ⟨k, rfl⟩ : ∃ m, k = m + 1 := ⟨k - 1, by omega⟩
    obtain ⟨k', rfl⟩ : ∃ m, k' = m + 1 := ⟨k' - 1, by omega⟩
    simp only [codeN]
    rw [iha hf.1 (show depth a ≤ k by omega) (show depth a ≤ k' by omega)]
    split
    · exact ihb hf.2 (by omega) (by omega)
    · rfl
  | cond c a b iha ihb =>
    intro k k' F S hf h h'
    simp only [flat, Bool.and_eq_true] at hf
    simp only [depth] at h h'
    obtain ⟨k, rfl⟩ : ∃ m, k = m + 1 := ⟨k - 1, by omega⟩
    obtain ⟨k', rfl⟩ : ∃ m, k' = m + 1 := ⟨k' - 1, by omega⟩
    simp only [codeN]
    rw [iha hf.1 (show depth a ≤ k by omega) (show depth a ≤ k' by omega), ihb hf.2 (show depth b ≤ k by omega) (show depth b ≤ k' by omega)]
  | blk id a iha =>
    intro k k' F S hf h h'
    simp only [flat] at hf
    simp only [depth] at h h'
    obtain ⟨k, rfl⟩ : ∃ m, k = m + 1 := ⟨k - 1, by omega⟩
    obtain ⟨k', rfl⟩ : ∃ m, k' = m + 1 := ⟨k' - 1, by omega⟩
    simp only [codeN]
    rw [iha hf (show depth a ≤ k by omega) (show depth a ≤ k' by omega)]
  | loop a => intro k k' F S hf; cases hf
  | rng x ps asg body => intro k k' F S hf; cases hf
theorem EvQ_flat {E : Env} {c : ACode} {F : Fr} {S : St} {Q : Ex → Fr → St → Prop} {n : Nat} (h : EvQ E c F S Q) (hf : flat c = true) (hd : depth c ≤ n) : ∃ r, (∃ K, ∀ j, K ≤ j → codeN E.meth (callN E j) n c F S = some r) ∧ Q r.1 r.2.1 r.2.2 := by
  obtain ⟨r, ⟨K, h1⟩, h2⟩ := h
  refine ⟨r, ⟨K, fun j hj => ?_⟩, h2⟩
  rw [codeN_flat hf hd (show depth c ≤ max K n by omega), h1 j (max K n) hj (by omega)]

theorem chk_fold {p : Prg} {st : Int} : encPrg p ++ [.int .i64 st] = encChk p st := rfl
@[go_sem] theorem strip_Chk {p : Prg} {st : Int} : (encChk p st).map strip = encChk p st := by rw [encChk, List.map_append, strip_Prg]; rfl
@[go_sem] theorem low_Chk {p : Prg} {st : Int} {n : Nat} : lowL n (encChk p st) = true := by cases p; simp [encChk, encPrg, lowL, low]
@[go_sem] theorem all_Chk {p : Prg} {st : Int} : cutV (encChk p st) 0 4 true = some (.agg (encChk p st)) := by rw [cutV_all len_Chk, strip_Chk]
theorem strip_clone {b : Bool} {l : List ByteArray} (h : b = true → l = []) : strip (cloneV b (l.map encS)) = .slice (nk b) (l.map encS) := by
  cases b with
  | true => rw [h rfl]; rfl
  | false => rfl
def chkPrg (p : Prg) : Bool := vHead p && (chkBody p p.body p.params 0).1
theorem check_ok {p : Prg} (hp : OkPrg p) : Sp theEnv 9 [.agg (encPrg p)] (.int .i64 (if chkPrg p = true then 0 else 1)) := {
  a := by simp only [go_sem, Nat.reduceEqDiff, Nat.reduceAdd, Nat.reduceLeDiff, Nat.reduceMul, Nat.reduceSub, Int.reduceLT, Int.reduceLE, Int.reduceEq, Int.reduceAdd, Int.reduceNeg, reduceIte, reduceCtorEq, Nat.reduceLT]
  l := fun n => by simp only [go_sem, Nat.reduceEqDiff, Nat.reduceAdd, Nat.reduceLeDiff, Nat.reduceMul, Nat.reduceSub, Int.reduceLT, Int.reduceLE, Int.reduceEq, Int.reduceAdd, Int.reduceNeg, reduceIte, reduceCtorEq, Nat.reduceLT]
  s := by
    intro S
    have hx : theEnv.ext 9 = some (guardH theMeth 1 pre9 post9 2 4 86) := rfl
    obtain ⟨⟨e1, F1, S1⟩, ⟨K1, h1⟩, he1, hF1, hS1⟩ := EvQ_flat (n := 60) (EvQ_run (E := theEnv) (c := pre9) (F := args0 [.agg (encPrg p)]) (S := ⟨[], none⟩ :: S) (Q := fun e F S' => e = .nrm ∧ F = put (put (args0 [.agg (encPrg p)]) 1 (.ptr S.length 0 0)) 2 (.ptr S.length 1 0) ∧ S' = ⟨[encPrg p, [.int .i64 0]], none⟩ :: S) (by
      simp only [pre9, go_sem, Nat.reduceEqDiff, Nat.reduceAdd, Nat.reduceLeDiff, Nat.reduceMul, Nat.reduceSub, Int.reduceLT, Int.reduceLE, Int.reduceEq, Int.reduceAdd, Int.reduceNeg, reduceIte, reduceCtorEq, Nat.reduceLT])) rfl (by decide)
    simp only at he1 hF1 hS1
    subst he1 hF1 hS1
    obtain ⟨⟨e2, F2, S2⟩, ⟨K2, h2⟩, hQ⟩ := EvQ_flat (n := 60) (EvQ_run (E := theEnv) (c := post9) (F := put (put (put (args0 [.agg (encPrg p)]) 1 (.ptr S.length 0 0)) 2 (.ptr S.length 1 0)) 4 .undef) (S := ⟨[encPrg p, [.int .i64 0]], none⟩ :: S)
      (Q := fun e F S' => F 2 = .ptr S.length 1 0 ∧ (∃ B, S' = ⟨encPrg p :: [.int .i64 0] :: B, none⟩ :: S) ∧ e = if chkPrg p = true then .ret else .pan stop) (by
      have hh := head_ok (p := p) (st := 0) (S := ⟨[encPrg p, [.int .i64 0], encChk p 0], none⟩ :: S) (l := S.length) (ci := 2) hp (by simp only [go_sem, Nat.reduceEqDiff, Nat.reduceAdd, Nat.reduceLeDiff, Nat.reduceMul, Nat.reduceSub, Int.reduceLT, Int.reduceLE, Int.reduceEq, Int.reduceAdd, Int.reduceNeg, reduceIte, reduceCtorEq, Nat.reduceLT])
      simp only [post9, go_sem, Nat.reduceEqDiff, Nat.reduceAdd, Nat.reduceLeDiff, Nat.reduceMul, Nat.reduceSub, Int.reduceLT, Int.reduceLE, Int.reduceEq, Int.reduceAdd, Int.reduceNeg, reduceIte, reduceCtorEq, Nat.reduceLT, chk_fold, CallP hh]
      split
      · rename_i hv
        have hlen : (p.params.length : Int) ≤ 2 := by
          simp only [vHead, Bool.and_eq_true, decide_eq_true_eq] at hv
          exact hv.1.1.1
        have hb := body_ok hp (show p.params.length ≤ 1000 by omega) hp.bl (fun s hs => stm_ok (l := S.length) (ci := 2) hp (by omega) s (hp.bs s hs)) p.params p.pn p.bn 0 (⟨[encPrg p, [.int .i64 0], encChk p 0], none⟩ :: S) (by omega) hp.pz (by simp only [go_sem, Nat.reduceEqDiff, Nat.reduceAdd, Nat.reduceLeDiff, Nat.reduceMul, Nat.reduceSub, Int.reduceLT, Int.reduceLE, Int.reduceEq, Int.reduceAdd, Int.reduceNeg, reduceIte, reduceCtorEq, Nat.reduceLT]) (by omega) (by omega)
        simp only [go_sem, Nat.reduceEqDiff, Nat.reduceAdd, Nat.reduceLeDiff, Nat.reduceMul, Nat.reduceSub, Int.reduceLT, Int.reduceLE, Int.reduceEq, Int.reduceAdd, Int.reduceNeg, reduceIte, reduceCtorEq, Nat.reduceLT] at hb
        simp only [go_sem, Nat.reduceEqDiff, Nat.reduceAdd, Nat.reduceLeDiff, Nat.reduceMul, Nat.reduceSub, Int.reduceLT, Int.reduceLE, Int.reduceEq, Int.reduceAdd, Int.reduceNeg, reduceIte, reduceCtorEq, Nat.reduceLT, (clone_ok p.pn p.params (by omega) hp.pz).call, strip_clone hp.pz, CallP hb, chkPrg, hv]
        split
        · rename_i hc; simp only [go_sem, Nat.reduceEqDiff, Nat.reduceAdd, Nat.reduceLeDiff, Nat.reduceMul, Nat.reduceSub, Int.reduceLT, Int.reduceLE, Int.reduceEq, Int.reduceAdd, Int.reduceNeg, reduceIte, reduceCtorEq, Nat.reduceLT, hc]
        · rename_i hc; simp only [go_sem, Nat.reduceEqDiff, Nat.reduceAdd, Nat.reduceLeDiff, Nat.reduceMul, Nat.reduceSub, Int.reduceLT, Int.reduceLE, Int.reduceEq, Int.reduceAdd, Int.reduceNeg, reduceIte, reduceCtorEq, Nat.reduceLT, hc]
      · rename_i hv
        simp only [chkPrg, hv, go_sem, Nat.reduceEqDiff, Nat.reduceAdd, Nat.reduceLeDiff, Nat.reduceMul, Nat.reduceSub, Int.reduceLT, Int.reduceLE, Int.reduceEq, Int.reduceAdd, Int.reduceNeg, reduceIte, reduceCtorEq, Nat.reduceLT])) rfl (by decide)
    simp only at hQ
    obtain ⟨hF2, ⟨B, rfl⟩, rfl⟩ := hQ
    refine ⟨max K1 K2 + 1, fun j hj => ?_⟩
    obtain ⟨j, rfl⟩ : ∃ m, j = m + 1 := ⟨j - 1, by omega⟩
    simp only [callN, callBody, hx, guardH, List.length_cons, List.length_nil, if_true]
    have e1 := h1 j (by omega)
    have e2 := h2 j (by omega)
    have hm : theEnv.meth = theMeth := rfl
    rw [hm] at e1 e2
    rw [e1]
    simp only [e2]
    cases hc : chkPrg p <;> simp [put_hit, hF2, oneBox, low, strip, stop] }
end Wp
end AM
end Go.Proofs.Ytimfbnojmdnlnaa
