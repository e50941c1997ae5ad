/- lang.found; lang.Space, lang.At; headlandref02.Order; The steps' paths: in increasing order; one that is the head of another has something within; An assignment that Check lets pass has nothing within; Copies are well formed; how many steps; the fields of an Info. -/
import Derived.Test.YtimfbnojmdnlnaaGreatKM27
import Derived.Test.YtimfbnojmdnlnaaGreatKSbP
set_option linter.unusedVariables false
set_option linter.unusedSimpArgs false
set_option maxRecDepth 100000
section
namespace Go.Proofs.YtimfbnojmdnlnaaGreat
namespace AM
namespace Wp
theorem eqvR_I : ∀ {a b : List Int}, eqvR (a.map encI) (b.map encI) = decide (a = b)
 | [], [] => by simp [eqvR]
 | [], _ :: _ => by simp [eqvR]
 | _ :: _, [] => by simp [eqvR]
 | x :: a, y :: b => by
  simp only [List.map_cons, eqvR, eqvR_I, eqv_I, List.cons.injEq]
  by_cases h1 : x = y <;> by_cases h2 : a = b <;> simp [h1, h2]
theorem RoundEnd_ret {l : Nat} {P : Out → St → Prop} {F F' : Fr} {ps : List Nat} {asg body : ACode} {L : List (List V)} {T : Lev} {R : St} (h : getLev R l = some ⟨L, some ⟨F, ps, asg, body, some .nrm⟩⟩) (hp : P (.ret (.bool false)) (putLev R l ⟨L, some ⟨F, ps, asg, body, some .ret⟩⟩)) : RoundEnd l P .ret F' (T :: R) :=
 ⟨F, ps, asg, body, L, h, hp⟩
def zStep : List V := [.slice .nil [], .slice .nil [], .int .i64 0, .str ⟨#[]⟩, .slice .nil [], .slice .nil [], .int .i64 0, .int .i64 0, .int .i64 0, .slice .nil [], .int .i64 0, .slice .nil [], .int .i64 0, .int .i64 0, .slice .nil [], .int .i64 0, .int .i64 0, .slice .nil [], .slice .nil [], .slice .nil [], .slice .nil []]
@[go_sem] theorem dz_zStep : dz (some zStep) = some zStep := dz_len (by decide)
theorem all_step (x : Step) : cutV (stepC x) 0 21 true = some (.agg (stepC x)) := by rw [cutV_all (len_step x), strip_step]
def asgF : ACode := (.reg [ .seq ⟨some 6, .al [.slice .nil [], .slice .nil [], .int .i64 0, .str ⟨#[]⟩, .slice .nil [], .slice .nil [], .int .i64 0, .int .i64 0, .int .i64 0, .slice .nil [], .int .i64 0, .slice .nil [], .int .i64 0, .int .i64 0, .slice .nil [], .int .i64 0, .int .i64 0, .slice .nil [], .slice .nil [], .slice .nil [], .slice .nil []], none⟩, .seq ⟨none, .st 21 (.t 6) (.t 9), none⟩])
def bodyF : ACode := (.blk 1 (.seq (.reg [ .seq ⟨some 10, .fa 0 (.t 6), none⟩, .seq ⟨some 11, .ld false 1 false (.t 10), none⟩, .seq ⟨some 12, .ld false 1 false (.t 3), none⟩, .seq ⟨some 13, .call 92 [(.t 11), (.t 12)], none⟩]) (.cond (.t 13) (.seq (.reg [ .seq ⟨some 14, .ld false 21 true (.t 6), none⟩, .seq ⟨none, .st 21 (.t 4) (.t 14), none⟩, .seq ⟨none, .st 1 (.t 5) (.c (.bool true)), none⟩]) (.ret)) (.nop))))
def frF (p : Prg) (F0 : Fr) (v : V) : Option Step → Lev
 | none => ⟨[encPrg p, [v], zStep, [.bool false], encPrg p], some ⟨F0, [9], asgF, bodyF, none⟩⟩
 | some x => ⟨[encPrg p, [v], stepC x, [.bool true], encPrg p], some ⟨F0, [9], asgF, bodyF, some .ret⟩⟩
def gF (path : List Int) : Option Step → Step → Option Step × Bool
 | none, x => if x.path = path then (some x, false) else (none, true)
 | some y, _ => (some y, false)
def jF (t : Option Step) (_ : Nat) : Prop := t = none
theorem bud_f (path : List Int) : Bud (gF path) jF := {
 mono t n m h _ := h
 step t x n _ hg h := by
  unfold jF at *
  subst h
  simp only [gF] at hg ⊢
  split
  ·rename_i he; rw [if_pos he] at hg; cases hg
  ·rfl }
theorem roundF {p : Prg} {F0 : Fr} {l : Nat} {b : Bool} {path : List Int} (h3 : F0 3 = .ptr l 1 0) (h4 : F0 4 = .ptr l 2 0) (h5 : F0 5 = .ptr l 3 0) : YSp l (frF p F0 (.slice (nk b) (path.map encI))) (gF path) jF := by
 rintro t x S ⟨hxo, hxw, hxp, _⟩ hj hlev
 unfold jF at hj
 subst hj
 have hl := getLev_lt hlev
 suffices h : CallQ theEnv (.yield l) [.agg (encStep x)] S fun o S' => o = .ret (.bool (gF path none x).2) ∧ S' = putLev S l (frF p F0 (.slice (nk b) (path.map encI)) (gF path none x).1) by
  obtain ⟨o, S', h1, rfl, rfl⟩ := h
  exact h1
 refine CallQ_yield hlev rfl ?_
 simp only [step_c, asgF, putPs, go_sem, Nat.reduceEqDiff, Nat.reduceAdd, Nat.reduceLeDiff, Nat.reduceMul, Nat.reduceSub, Int.reduceLT, Int.reduceLE, Int.reduceEq, Int.reduceAdd, Int.reduceNeg, reduceIte, reduceCtorEq, Nat.reduceLT, strip_step, len_step, low_step]
 refine ⟨_, _, _, _, _, getLev_up hlev, ?_⟩
 rw [putLev_up hlev]
 have hG := fun T x i => getBox_at (T := T) (x := x) (i := i) hlev
 have hB := fun T x i cs => setBox_at (T := T) (x := x) (i := i) (cs := cs) hlev
 have hrun : ∀ F S Q, Run theEnv [KI.c bodyF] F S Q = Run theEnv [KI.c (.blk 1 (.seq (.reg [ .seq ⟨some 10, .fa 0 (.t 6), none⟩, .seq ⟨some 11, .ld false 1 false (.t 10), none⟩, .seq ⟨some 12, .ld false 1 false (.t 3), none⟩, .seq ⟨some 13, .call 92 [(.t 11), (.t 12)], none⟩]) (.cond (.t 13) (.seq (.reg [ .seq ⟨some 14, .ld false 21 true (.t 6), none⟩, .seq ⟨none, .st 21 (.t 4) (.t 14), none⟩, .seq ⟨none, .st 1 (.t 5) (.c (.bool true)), none⟩]) (.ret)) (.nop))))] F S Q := fun _ _ _ => rfl
 have e0 : cutV (stepC x) 0 1 false = some (.slice (nk false) (x.path.map encI)) := by simp only [stepC, go_sem, Nat.reduceEqDiff, Nat.reduceAdd, Nat.reduceLeDiff, Nat.reduceMul, Nat.reduceSub, Int.reduceLT, Int.reduceLE, Int.reduceEq, Int.reduceAdd, Int.reduceNeg, reduceIte, reduceCtorEq, Nat.reduceLT]
 rw [hrun]
 have hq : Sp theEnv 92 [.slice .shut (x.path.map encI), .slice (nk b) (path.map encI)] (.bool (decide (x.path = path))) := by
  rw [← eqvR_I]
  exact eq_int (b1 := false) (Nat.le_trans hxp (by decide))
 simp only [frF, go_sem, Nat.reduceEqDiff, Nat.reduceAdd, Nat.reduceLeDiff, Nat.reduceMul, Nat.reduceSub, Int.reduceLT, Int.reduceLE, Int.reduceEq, Int.reduceAdd, Int.reduceNeg, reduceIte, reduceCtorEq, Nat.reduceLT, hG, h3, e0, hq.call, Run_if]
 by_cases he : x.path = path
 ·simp only [he, gF, if_true, go_sem, Nat.reduceEqDiff, Nat.reduceAdd, Nat.reduceLeDiff, Nat.reduceMul, Nat.reduceSub, Int.reduceLT, Int.reduceLE, Int.reduceEq, Int.reduceAdd, Int.reduceNeg, reduceIte, reduceCtorEq, Nat.reduceLT, h4, h5, hG, hB, all_step]
  have hd : List.drop 21 zStep = [] := rfl
  simp only [strip_step, len_step, low_step, hd, List.append_nil, true_and]
  exact ⟨by decide, RoundEnd_ret (getLev_put hlev) ⟨rfl, putLev_put⟩⟩
 ·simp only [he, gF, if_false, go_sem, Nat.reduceEqDiff, Nat.reduceAdd, Nat.reduceLeDiff, Nat.reduceMul, Nat.reduceSub, Int.reduceLT, Int.reduceLE, Int.reduceEq, Int.reduceAdd, Int.reduceNeg, reduceIte, reduceCtorEq, Nat.reduceLT]
  exact RoundEnd_nrm (getLev_put hlev) ⟨rfl, putLev_put⟩
def foundV : Option Step → V
 | some x => .tup [.agg (stepC x), .bool true]
 | none => .tup [.agg zStep, .bool false]
theorem gF_fold {path : List Int} : ∀ {xs : List Step}, (foldG (gF path) none xs).1 = xs.find? (fun x => decide (x.path = path))
 | [] => rfl
 | x :: xs => by
  simp only [foldG, gF, List.find?_cons]
  by_cases h : x.path = path
  ·simp [h]
  ·simp only [if_neg h, if_true, h, decide_false]; exact gF_fold
theorem found_ok {p : Prg} (hp : OkPrg p) (hw : wtL (encPrg p) ≤ 500000000) (b : Bool) (path : List Int) : Sp theEnv 55 [.agg (encPrg p), .slice (nk b) (path.map encI)] (foundV ((allSteps p).find? fun x => decide (x.path = path))) := by
 refine Sp.fn rfl rfl rfl (by simp only [go_sem, Nat.reduceEqDiff, Nat.reduceAdd, Nat.reduceLeDiff, Nat.reduceMul, Nat.reduceSub, Int.reduceLT, Int.reduceLE, Int.reduceEq, Int.reduceAdd, Int.reduceNeg, reduceIte, reduceCtorEq, Nat.reduceLT]) (by
  intro n
  cases (allSteps p).find? fun x => decide (x.path = path) with
  | none => rfl
  | some x => simp only [foundV, low, lowL, low_step, Bool.and_self]) fun S => ?_
 simp only [a55, c55, go_sem, Nat.reduceEqDiff, Nat.reduceAdd, Nat.reduceLeDiff, Nat.reduceMul, Nat.reduceSub, Int.reduceLT, Int.reduceLE, Int.reduceEq, Int.reduceAdd, Int.reduceNeg, reduceIte, reduceCtorEq, Nat.reduceLT]
 rw [Call_esc (walk_esc p) (by simp only [go_sem, Nat.reduceEqDiff, Nat.reduceAdd, Nat.reduceLeDiff, Nat.reduceMul, Nat.reduceSub, Int.reduceLT, Int.reduceLE, Int.reduceEq, Int.reduceAdd, Int.reduceNeg, reduceIte, reduceCtorEq, Nat.reduceLT]) rfl (by simp only [barest, encPrg]; rfl)]
 simp only [go_sem, Nat.reduceEqDiff, Nat.reduceAdd, Nat.reduceLeDiff, Nat.reduceMul, Nat.reduceSub, Int.reduceLT, Int.reduceLE, Int.reduceEq, Int.reduceAdd, Int.reduceNeg, reduceIte, reduceCtorEq, Nat.reduceLT, reloc, relocL, List.map_cons, List.map_nil]
 have e : relocL 0 S.length 4 (encPrg p) = encPrg p := rfl
 rw [e]
 refine Run_rng (f := 82) (cs := [.ptr S.length 4 0]) (by simp only [go_sem, Nat.reduceEqDiff, Nat.reduceAdd, Nat.reduceLeDiff, Nat.reduceMul, Nat.reduceSub, Int.reduceLT, Int.reduceLE, Int.reduceEq, Int.reduceAdd, Int.reduceNeg, reduceIte, reduceCtorEq, Nat.reduceLT]) (by simp only [go_sem, Nat.reduceEqDiff, Nat.reduceAdd, Nat.reduceLeDiff, Nat.reduceMul, Nat.reduceSub, Int.reduceLT, Int.reduceLE, Int.reduceEq, Int.reduceAdd, Int.reduceNeg, reduceIte, reduceCtorEq, Nat.reduceLT]) ?_
 generalize hF : (fun t => calm (put _ _ _ t)) = F0
 have h3 : F0 3 = .ptr S.length 1 0 := by rw [← hF]; simp only [go_sem, Nat.reduceEqDiff, Nat.reduceAdd, Nat.reduceLeDiff, Nat.reduceMul, Nat.reduceSub, Int.reduceLT, Int.reduceLE, Int.reduceEq, Int.reduceAdd, Int.reduceNeg, reduceIte, reduceCtorEq, Nat.reduceLT]; rfl
 have h4 : F0 4 = .ptr S.length 2 0 := by rw [← hF]; simp only [go_sem, Nat.reduceEqDiff, Nat.reduceAdd, Nat.reduceLeDiff, Nat.reduceMul, Nat.reduceSub, Int.reduceLT, Int.reduceLE, Int.reduceEq, Int.reduceAdd, Int.reduceNeg, reduceIte, reduceCtorEq, Nat.reduceLT]; rfl
 have h5 : F0 5 = .ptr S.length 3 0 := by rw [← hF]; simp only [go_sem, Nat.reduceEqDiff, Nat.reduceAdd, Nat.reduceLeDiff, Nat.reduceMul, Nat.reduceSub, Int.reduceLT, Int.reduceLE, Int.reduceEq, Int.reduceAdd, Int.reduceNeg, reduceIte, reduceCtorEq, Nat.reduceLT]; rfl
 have hw1 := walk1_ok (l := S.length) (q := 4) (fr := frF p F0 (.slice (nk b) (path.map encI))) (g := gF path) (J := jF) (roundF h3 h4 h5) (bud_f path) hp (by omega) (t := none) (S := ⟨[encPrg p, [.slice (nk b) (path.map encI)], zStep, [.bool false], encPrg p], some ⟨F0, [9], asgF, bodyF, none⟩⟩ :: S) (by simp only [getLev, if_true]; rfl) (by simp only [go_sem, Nat.reduceEqDiff, Nat.reduceAdd, Nat.reduceLeDiff, Nat.reduceMul, Nat.reduceSub, Int.reduceLT, Int.reduceLE, Int.reduceEq, Int.reduceAdd, Int.reduceNeg, reduceIte, reduceCtorEq, Nat.reduceLT]) rfl
 refine ⟨_, _, hw1, ?_⟩
 rw [gF_fold]
 simp only [putLev, if_true]
 cases (allSteps p).find? fun x => decide (x.path = path) with
 | none =>
  simp only [frF, RngEnd, foundV, go_sem, Nat.reduceEqDiff, Nat.reduceAdd, Nat.reduceLeDiff, Nat.reduceMul, Nat.reduceSub, Int.reduceLT, Int.reduceLE, Int.reduceEq, Int.reduceAdd, Int.reduceNeg, reduceIte, reduceCtorEq, Nat.reduceLT]
  have hd : List.drop 21 zStep = [] := rfl
  have hz : cutV zStep 0 21 true = some (.agg zStep) := rfl
  rw [hd]
  refine ⟨by decide, ?_⟩
  show FinR (tupO (consO (cutV zStep 0 21 true) (some [V.bool false]))) S _
  rw [hz]
  simp only [go_sem, Nat.reduceEqDiff, Nat.reduceAdd, Nat.reduceLeDiff, Nat.reduceMul, Nat.reduceSub, Int.reduceLT, Int.reduceLE, Int.reduceEq, Int.reduceAdd, Int.reduceNeg, reduceIte, reduceCtorEq, Nat.reduceLT]
  rfl
 | some x =>
  simp only [frF, RngEnd, foundV, go_sem, Nat.reduceEqDiff, Nat.reduceAdd, Nat.reduceLeDiff, Nat.reduceMul, Nat.reduceSub, Int.reduceLT, Int.reduceLE, Int.reduceEq, Int.reduceAdd, Int.reduceNeg, reduceIte, reduceCtorEq, Nat.reduceLT, all_step]
  exact low_step x _
end Wp
end AM
end Go.Proofs.YtimfbnojmdnlnaaGreat
end
section
namespace Go.Proofs.YtimfbnojmdnlnaaGreat
namespace AM
namespace Wp
theorem all_ok {p : Prg} (hp : OkPrg p) (hw : wtL (encPrg p) ≤ 500000000) : ∀ x ∈ allSteps p, okStep x := by
 have h1 := wtR_len (enc := encS) (fun x => by simp [encS, wtL, wt]) p.params
 simp only [encPrg, wtL, wt, encStms_map] at hw
 exact steps_ok hp.bs (by simp; omega) (by omega)
def atPath (p : Prg) (path : List Int) : Option Step := (allSteps p).find? fun x => decide (x.path = path)
theorem step_1 (x : Step) : (stepC x)[1]? = some (.slice (nk x.nb) (x.names.map encS)) := rfl
theorem cut_1 (x : Step) : cutV (stepC x) 1 1 false = some (.slice (nk x.nb) (x.names.map encS)) := by simp only [stepC, go_sem, Nat.reduceEqDiff, Nat.reduceAdd, Nat.reduceLeDiff, Nat.reduceMul, Nat.reduceSub, Int.reduceLT, Int.reduceLE, Int.reduceEq, Int.reduceAdd, Int.reduceNeg, reduceIte, reduceCtorEq, Nat.reduceLT]
theorem cut_2 (x : Step) : cutV (stepC x) 2 19 true = some (.agg (encStm x.s)) := by simp only [stepC, go_sem, Nat.reduceEqDiff, Nat.reduceAdd, Nat.reduceLeDiff, Nat.reduceMul, Nat.reduceSub, Int.reduceLT, Int.reduceLE, Int.reduceEq, Int.reduceAdd, Int.reduceNeg, reduceIte, reduceCtorEq, Nat.reduceLT]
theorem space_ok {p : Prg} (hp : OkPrg p) (hw : wtL (encPrg p) ≤ 500000000) (b : Bool) (path : List Int) : Sp theEnv 19 [.agg (encPrg p), .slice (nk b) (path.map encI)] (if chkPrg p then (match atPath p path with | some x => .tup [.slice (nk x.nb) (x.names.map encS), .int .i64 0] | none => .tup [.slice .nil [], .int .i64 5]) else .tup [.slice .nil [], .int .i64 1]) := by
 refine Sp.fn rfl rfl rfl (by simp only [go_sem, Nat.reduceEqDiff, Nat.reduceAdd, Nat.reduceLeDiff, Nat.reduceMul, Nat.reduceSub, Int.reduceLT, Int.reduceLE, Int.reduceEq, Int.reduceAdd, Int.reduceNeg, reduceIte, reduceCtorEq, Nat.reduceLT]) (by
  intro n
  split
  ·split <;> simp only [go_sem, Nat.reduceEqDiff, Nat.reduceAdd, Nat.reduceLeDiff, Nat.reduceMul, Nat.reduceSub, Int.reduceLT, Int.reduceLE, Int.reduceEq, Int.reduceAdd, Int.reduceNeg, reduceIte, reduceCtorEq, Nat.reduceLT]
  ·simp only [go_sem, Nat.reduceEqDiff, Nat.reduceAdd, Nat.reduceLeDiff, Nat.reduceMul, Nat.reduceSub, Int.reduceLT, Int.reduceLE, Int.reduceEq, Int.reduceAdd, Int.reduceNeg, reduceIte, reduceCtorEq, Nat.reduceLT]) fun S => ?_
 have hf := found_ok hp hw b path
 simp only [a19, c19, go_sem, Nat.reduceEqDiff, Nat.reduceAdd, Nat.reduceLeDiff, Nat.reduceMul, Nat.reduceSub, Int.reduceLT, Int.reduceLE, Int.reduceEq, Int.reduceAdd, Int.reduceNeg, reduceIte, reduceCtorEq, Nat.reduceLT, (check_ok hp).call]
 rw [Run_if]
 simp only [go_sem, Nat.reduceEqDiff, Nat.reduceAdd, Nat.reduceLeDiff, Nat.reduceMul, Nat.reduceSub, Int.reduceLT, Int.reduceLE, Int.reduceEq, Int.reduceAdd, Int.reduceNeg, reduceIte, reduceCtorEq, Nat.reduceLT]
 split
 ·simp only [go_sem, Nat.reduceEqDiff, Nat.reduceAdd, Nat.reduceLeDiff, Nat.reduceMul, Nat.reduceSub, Int.reduceLT, Int.reduceLE, Int.reduceEq, Int.reduceAdd, Int.reduceNeg, reduceIte, reduceCtorEq, Nat.reduceLT, hf.call]
  unfold atPath
  cases (allSteps p).find? fun x => decide (x.path = path) with
  | none =>
   simp only [foundV, go_sem, Nat.reduceEqDiff, Nat.reduceAdd, Nat.reduceLeDiff, Nat.reduceMul, Nat.reduceSub, Int.reduceLT, Int.reduceLE, Int.reduceEq, Int.reduceAdd, Int.reduceNeg, reduceIte, reduceCtorEq, Nat.reduceLT]
   exact ⟨rfl, rfl⟩
  | some x => simp only [foundV, go_sem, Nat.reduceEqDiff, Nat.reduceAdd, Nat.reduceLeDiff, Nat.reduceMul, Nat.reduceSub, Int.reduceLT, Int.reduceLE, Int.reduceEq, Int.reduceAdd, Int.reduceNeg, reduceIte, reduceCtorEq, Nat.reduceLT, len_step, strip_step, low_step, step_1, cut_1]
 ·simp only [go_sem, Nat.reduceEqDiff, Nat.reduceAdd, Nat.reduceLeDiff, Nat.reduceMul, Nat.reduceSub, Int.reduceLT, Int.reduceLE, Int.reduceEq, Int.reduceAdd, Int.reduceNeg, reduceIte, reduceCtorEq, Nat.reduceLT]
def zStm : List V := [.int .i64 0, .str ⟨#[]⟩, .slice .nil [], .slice .nil [], .int .i64 0, .int .i64 0, .int .i64 0, .slice .nil [], .int .i64 0, .slice .nil [], .int .i64 0, .int .i64 0, .slice .nil [], .int .i64 0, .int .i64 0, .slice .nil [], .slice .nil [], .slice .nil [], .slice .nil []]
theorem cut_z : cutV zStm 0 19 true = some (.agg zStm) := rfl
theorem at_ok (h78 : SetCopy) {p : Prg} (hp : OkPrg p) (hw : wtL (encPrg p) ≤ 500000000) (b : Bool) (path : List Int) : Sp theEnv 21 [.agg (encPrg p), .slice (nk b) (path.map encI)] (if chkPrg p then (match atPath p path with | some x => .tup [.agg (encStm (copyStm x.s)), .int .i64 0] | none => .tup [.agg zStm, .int .i64 5]) else .tup [.agg zStm, .int .i64 1]) := by
 refine Sp.fn rfl rfl rfl (by simp only [go_sem, Nat.reduceEqDiff, Nat.reduceAdd, Nat.reduceLeDiff, Nat.reduceMul, Nat.reduceSub, Int.reduceLT, Int.reduceLE, Int.reduceEq, Int.reduceAdd, Int.reduceNeg, reduceIte, reduceCtorEq, Nat.reduceLT]) (by
  intro n
  split
  ·split
   ·simp only [go_sem, Nat.reduceEqDiff, Nat.reduceAdd, Nat.reduceLeDiff, Nat.reduceMul, Nat.reduceSub, Int.reduceLT, Int.reduceLE, Int.reduceEq, Int.reduceAdd, Int.reduceNeg, reduceIte, reduceCtorEq, Nat.reduceLT]
   ·rfl
  ·rfl) fun S => ?_
 have hf := found_ok hp hw b path
 have hall : ∀ x ∈ allSteps p, okStep x := all_ok hp hw
 simp only [a21, c21, go_sem, Nat.reduceEqDiff, Nat.reduceAdd, Nat.reduceLeDiff, Nat.reduceMul, Nat.reduceSub, Int.reduceLT, Int.reduceLE, Int.reduceEq, Int.reduceAdd, Int.reduceNeg, reduceIte, reduceCtorEq, Nat.reduceLT, (check_ok hp).call]
 rw [Run_if]
 simp only [go_sem, Nat.reduceEqDiff, Nat.reduceAdd, Nat.reduceLeDiff, Nat.reduceMul, Nat.reduceSub, Int.reduceLT, Int.reduceLE, Int.reduceEq, Int.reduceAdd, Int.reduceNeg, reduceIte, reduceCtorEq, Nat.reduceLT]
 split
 ·simp only [go_sem, Nat.reduceEqDiff, Nat.reduceAdd, Nat.reduceLeDiff, Nat.reduceMul, Nat.reduceSub, Int.reduceLT, Int.reduceLE, Int.reduceEq, Int.reduceAdd, Int.reduceNeg, reduceIte, reduceCtorEq, Nat.reduceLT, hf.call]
  unfold atPath
  cases hx : (allSteps p).find? fun x => decide (x.path = path) with
  | none =>
   simp only [foundV, go_sem, Nat.reduceEqDiff, Nat.reduceAdd, Nat.reduceLeDiff, Nat.reduceMul, Nat.reduceSub, Int.reduceLT, Int.reduceLE, Int.reduceEq, Int.reduceAdd, Int.reduceNeg, reduceIte, reduceCtorEq, Nat.reduceLT]
   refine ⟨rfl, rfl, ?_⟩
   show FinR (tupO (consO (cutV zStm 0 19 true) (some [V.int .i64 5]))) S _
   simp only [cut_z, go_sem, Nat.reduceEqDiff, Nat.reduceAdd, Nat.reduceLeDiff, Nat.reduceMul, Nat.reduceSub, Int.reduceLT, Int.reduceLE, Int.reduceEq, Int.reduceAdd, Int.reduceNeg, reduceIte, reduceCtorEq, Nat.reduceLT]
   rfl
  | some x =>
   have hxo := hall x (List.mem_of_find?_eq_some hx)
   simp only [foundV, go_sem, Nat.reduceEqDiff, Nat.reduceAdd, Nat.reduceLeDiff, Nat.reduceMul, Nat.reduceSub, Int.reduceLT, Int.reduceLE, Int.reduceEq, Int.reduceAdd, Int.reduceNeg, reduceIte, reduceCtorEq, Nat.reduceLT, len_step, strip_step, low_step, cut_2, (copy_stm h78 x.s hxo.1 hxo.2.1).call]
 ·simp only [go_sem, Nat.reduceEqDiff, Nat.reduceAdd, Nat.reduceLeDiff, Nat.reduceMul, Nat.reduceSub, Int.reduceLT, Int.reduceLE, Int.reduceEq, Int.reduceAdd, Int.reduceNeg, reduceIte, reduceCtorEq, Nat.reduceLT]
  show FinR (tupO (consO (cutV zStm 0 19 true) (some [V.int .i64 1]))) S _
  simp only [cut_z, go_sem, Nat.reduceEqDiff, Nat.reduceAdd, Nat.reduceLeDiff, Nat.reduceMul, Nat.reduceSub, Int.reduceLT, Int.reduceLE, Int.reduceEq, Int.reduceAdd, Int.reduceNeg, reduceIte, reduceCtorEq, Nat.reduceLT]
  rfl
end Wp
end AM
end Go.Proofs.YtimfbnojmdnlnaaGreat
end
section
namespace Go.Proofs.YtimfbnojmdnlnaaGreat
namespace AM
namespace Wp
def ordI : List Int → List Int → Int
 | x :: a, y :: b => if x < y then -1 else if y < x then 1 else ordI a b
 | _, _ => 0
theorem ordI_at : ∀ {a b : List Int} {k : Nat} {x y : Int}, a.take k = b.take k → a[k]? = some x → b[k]? = some y → ordI a b = if x < y then -1 else if y < x then 1 else ordI (a.drop (k + 1)) (b.drop (k + 1))
 | u :: a, v :: b, 0, x, y, _, hx, hy => by
  simp at hx hy; subst hx; subst hy; simp [ordI]
 | u :: a, v :: b, k + 1, x, y, h, hx, hy => by
  simp only [List.take_succ_cons, List.cons.injEq] at h
  obtain ⟨rfl, h⟩ := h
  simp only [List.getElem?_cons_succ] at hx hy
  have := ordI_at h hx hy
  simp only [ordI, Int.lt_irrefl, if_false, List.drop_succ_cons, this]
 | [], _, k, _, _, _, hx, _ => by simp at hx
 | _ :: _, [], k, _, _, _, _, hy => by simp at hy
theorem ordI_zero : ∀ {a b : List Int}, a = b.take a.length → ordI a b = 0
 | [], b, _ => by cases b <;> rfl
 | x :: a, [], h => by simp at h
 | x :: a, y :: b, h => by
  simp only [List.length_cons, List.take_succ_cons, List.cons.injEq] at h
  obtain ⟨rfl, h⟩ := h
  simp only [ordI, Int.lt_irrefl, if_false, ordI_zero h]
theorem order_ok {b1 b2 : Bool} {a b : List Int} (hl : a.length ≤ 1000000000) (hab : a.length ≤ b.length) : Sp theEnv 42 [.slice (nk b1) (a.map encI), .slice (nk b2) (b.map encI)] (.int .i64 (ordI a b)) := by
 refine Sp.fn rfl rfl rfl (by simp only [go_sem, Nat.reduceEqDiff, Nat.reduceAdd, Nat.reduceLeDiff, Nat.reduceMul, Nat.reduceSub, Int.reduceLT, Int.reduceLE, Int.reduceEq, Int.reduceAdd, Int.reduceNeg, reduceIte, reduceCtorEq, Nat.reduceLT]) (by simp only [go_sem, Nat.reduceEqDiff, Nat.reduceAdd, Nat.reduceLeDiff, Nat.reduceMul, Nat.reduceSub, Int.reduceLT, Int.reduceLE, Int.reduceEq, Int.reduceAdd, Int.reduceNeg, reduceIte, reduceCtorEq, Nat.reduceLT, implies_true]) fun S => ?_; simp only [a42, c42, go_sem, Nat.reduceEqDiff, Nat.reduceAdd, Nat.reduceLeDiff, Nat.reduceMul, Nat.reduceSub, Int.reduceLT, Int.reduceLE, Int.reduceEq, Int.reduceAdd, Int.reduceNeg, reduceIte, reduceCtorEq, Nat.reduceLT]
 refine Run_range a.length [0, 1] [] (fun k _ S' => a.take k = b.take k ∧ ∃ B, S' = ⟨B, none⟩ :: S) (Nat.le_trans hl (by decide)) (by simp only [go_sem, Nat.reduceEqDiff, Nat.reduceAdd, Nat.reduceLeDiff, Nat.reduceMul, Nat.reduceSub, Int.reduceLT, Int.reduceLE, Int.reduceEq, Int.reduceAdd, Int.reduceNeg, reduceIte, reduceCtorEq, Nat.reduceLT]) (by simp only [go_sem, Nat.reduceEqDiff, Nat.reduceAdd, Nat.reduceLeDiff, Nat.reduceMul, Nat.reduceSub, Int.reduceLT, Int.reduceLE, Int.reduceEq, Int.reduceAdd, Int.reduceNeg, reduceIte, reduceCtorEq, Nat.reduceLT]) rfl rfl rfl rfl (by simp only [go_sem, Nat.reduceEqDiff, Nat.reduceAdd, Nat.reduceLeDiff, Nat.reduceMul, Nat.reduceSub, Int.reduceLT, Int.reduceLE, Int.reduceEq, Int.reduceAdd, Int.reduceNeg, reduceIte, reduceCtorEq, Nat.reduceLT]) ⟨rfl, _, rfl⟩ ?_ ?_
 ·rintro k F _ hk ⟨hB, B, rfl⟩ hi hkept
  simp only [go_sem, Nat.reduceEqDiff, Nat.reduceAdd, Nat.reduceLeDiff, Nat.reduceMul, Nat.reduceSub, Int.reduceLT, Int.reduceLE, Int.reduceEq, Int.reduceAdd, Int.reduceNeg, reduceIte, reduceCtorEq, Nat.reduceLT] at hkept
  obtain ⟨x, hx⟩ : ∃ x, a[k]? = some x := ⟨a[k], List.getElem?_eq_getElem hk⟩
  obtain ⟨y, hy⟩ : ∃ y, b[k]? = some y := ⟨b[k]'(by omega), List.getElem?_eq_getElem (by omega)⟩
  have ho := ordI_at hB hx hy
  simp only [go_sem, Nat.reduceEqDiff, Nat.reduceAdd, Nat.reduceLeDiff, Nat.reduceMul, Nat.reduceSub, Int.reduceLT, Int.reduceLE, Int.reduceEq, Int.reduceAdd, Int.reduceNeg, reduceIte, reduceCtorEq, Nat.reduceLT, hkept, hi, iaO_map hx, iaO_map hy, Run_if]
  split
  ·rename_i h1
   rw [ho, if_pos h1]
  ·rename_i h1
   split
   ·rename_i h2
    rw [ho, if_neg h1, if_pos h2]
   ·rename_i h2
    have hxy : x = y := by omega
    subst hxy
    rw [take_snoc' hx, take_snoc' hy, hB]
 ·rintro F _ ⟨hB, B, rfl⟩ hkept
  rw [List.take_length] at hB
  simp only [go_sem, Nat.reduceEqDiff, Nat.reduceAdd, Nat.reduceLeDiff, Nat.reduceMul, Nat.reduceSub, Int.reduceLT, Int.reduceLE, Int.reduceEq, Int.reduceAdd, Int.reduceNeg, reduceIte, reduceCtorEq, Nat.reduceLT, ordI_zero hB]
end Wp
end AM
end Go.Proofs.YtimfbnojmdnlnaaGreat
end
section
namespace Go.Proofs.YtimfbnojmdnlnaaGreat
namespace AM
namespace Wp
def lexLt : List Int → List Int → Bool
 | [], _ :: _ => true
 | x :: a, y :: b => decide (x < y) || (decide (x = y) && lexLt a b)
 | _, [] => false
theorem lexLt_app : ∀ (p : List Int) {a b : List Int}, lexLt (p ++ a) (p ++ b) = lexLt a b
 | [], _, _ => rfl
 | x :: p, a, b => by simp [lexLt, lexLt_app p]
theorem lexLt_irr : ∀ a : List Int, lexLt a a = false
 | [] => rfl
 | x :: a => by simp [lexLt, lexLt_irr a]
def StepLt (x y : Step) : Prop := lexLt x.path y.path = true ∧ (x.path <+: y.path → x.s.body ≠ [] ∨ x.s.els ≠ [])
mutual
theorem mem_stepsS : ∀ (s : Stm) {path : List Int} {nb : Bool} {names : List ByteArray} {i : Nat} {x : Step}, x ∈ stepsS path nb names i s → ∃ r, x.path = path ++ (i : Int) :: r
 | ⟨kind, name, low, high, step, mark, test, target, value, bn, body, en, els⟩, path, nb, names, i, x, hx => by
  simp only [stepsS, List.mem_cons, List.mem_append] at hx
  rcases hx with rfl | hx | hx
  ·exact ⟨[], rfl⟩
  ·obtain ⟨j, r, _, h⟩ := mem_stepsL body hx
   exact ⟨0 :: (j : Int) :: r, by rw [h]; simp⟩
  ·obtain ⟨j, r, _, h⟩ := mem_stepsL els hx
   exact ⟨1 :: (j : Int) :: r, by rw [h]; simp⟩
theorem mem_stepsL : ∀ (l : List Stm) {path : List Int} {nb : Bool} {names : List ByteArray} {i : Nat} {x : Step}, x ∈ stepsL path nb names i l → ∃ (j : Nat) (r : List Int), i ≤ j ∧ x.path = path ++ (j : Int) :: r
 | [], _, _, _, _, _, hx => by simp [stepsL] at hx
 | s :: l, path, nb, names, i, x, hx => by
  simp only [stepsL, List.mem_append] at hx
  rcases hx with hx | hx
  ·obtain ⟨r, h⟩ := mem_stepsS s hx
   exact ⟨i, r, Nat.le_refl _, h⟩
  ·obtain ⟨j, r, hj, h⟩ := mem_stepsL l hx
   exact ⟨j, r, by omega, h⟩
end
mutual
theorem pairS : ∀ (s : Stm) {path : List Int} {nb : Bool} {names : List ByteArray} {i : Nat}, (stepsS path nb names i s).Pairwise StepLt
 | ⟨kind, name, low, high, step, mark, test, target, value, bn, body, en, els⟩, path, nb, names, i => by
  simp only [stepsS, List.pairwise_cons, List.pairwise_append]
  refine ⟨fun y hy => ?_, pairL body, pairL els, fun x hx y hy => ?_⟩
  ·rcases List.mem_append.1 hy with hy | hy
   ·obtain ⟨j, r, _, h⟩ := mem_stepsL body hy
    refine ⟨?_, fun _ => .inl fun hb => ?_⟩
    ·rw [h, List.append_assoc, List.append_assoc, lexLt_app]; simp [lexLt]
    ·simp only at hb; rw [hb] at hy; simp [stepsL] at hy
   ·obtain ⟨j, r, _, h⟩ := mem_stepsL els hy
    refine ⟨?_, fun _ => .inr fun hb => ?_⟩
    ·rw [h, List.append_assoc, List.append_assoc, lexLt_app]; simp [lexLt]
    ·simp only at hb; rw [hb] at hy; simp [stepsL] at hy
  ·obtain ⟨j, r, _, h⟩ := mem_stepsL body hx
   obtain ⟨j', r', _, h'⟩ := mem_stepsL els hy
   rw [List.append_assoc] at h h'
   refine ⟨by rw [h, h', List.append_assoc, List.append_assoc, lexLt_app, lexLt_app]; simp [lexLt], fun hp => ?_⟩
   rw [h, h', List.append_assoc, List.append_assoc, List.prefix_append_right_inj, List.prefix_append_right_inj] at hp
   simp at hp
theorem pairL : ∀ (l : List Stm) {path : List Int} {nb : Bool} {names : List ByteArray} {i : Nat}, (stepsL path nb names i l).Pairwise StepLt
 | [], _, _, _, _ => by simp [stepsL]
 | s :: l, path, nb, names, i => by
  simp only [stepsL, List.pairwise_append]
  refine ⟨pairS s, pairL l, fun x hx y hy => ?_⟩
  obtain ⟨r, h⟩ := mem_stepsS s hx
  obtain ⟨j, r', hj, h'⟩ := mem_stepsL l hy
  refine ⟨by rw [h, h', lexLt_app]; simp [lexLt]; omega, fun hp => ?_⟩
  rw [h, h', List.prefix_append_right_inj, List.cons_prefix_cons] at hp
  omega
end
theorem pair_find {l : List Step} (h : l.Pairwise StepLt) {x : Step} (hx : x ∈ l) : l.find? (fun y => decide (y.path = x.path)) = some x := by
 induction l with
 | nil => cases hx
 | cons y l ih =>
  rw [List.pairwise_cons] at h
  rcases List.mem_cons.1 hx with rfl | hx
  ·simp
  ·have h1 := (h.1 x hx).1
   have hne : y.path ≠ x.path := fun e => by rw [e, lexLt_irr] at h1; cases h1
   rw [List.find?_cons_of_neg (by simpa using hne)]
   exact ih h.2 hx
theorem fold_info : ∀ {xs : List Step} {acc : List Info}, (foldG addInfo acc xs).1 = acc ++ (xs.filter fun x => decide (x.s.kind = 3)).map infoOf
 | [], acc => by simp [foldG]
 | x :: xs, acc => by
  simp only [foldG, addInfo, if_true]
  rw [fold_info]
  by_cases h : x.s.kind = 3 <;> simp [h]
end Wp
end AM
end Go.Proofs.YtimfbnojmdnlnaaGreat
end
section
namespace Go.Proofs.YtimfbnojmdnlnaaGreat
namespace AM
namespace Wp
def leaf (x : Step) : Prop := x.s.kind = 3 → x.s.body = [] ∧ x.s.els = []
theorem chkBody_list {p : Prg} {l : List Stm} {nm : List ByteArray} {st : Int} (h : (chkBody p l nm st).1 = true) : (chkList p l nm st).1 = true := by
 unfold chkBody at h
 split at h
 ·exact h
 ·cases h
end Wp
end AM
end Go.Proofs.YtimfbnojmdnlnaaGreat
end
section
namespace Go.Proofs.YtimfbnojmdnlnaaGreat
namespace AM
namespace Wp
theorem emp {α : Type} {l : List α} (h : l.isEmpty = true) : l = [] := by cases l <;> first | rfl | cases h
theorem ok_copyRef {x : Ref} (h : OkRef x) : OkRef (copyRef x) := ⟨h.a, h.l, h.s, emp⟩
theorem ok_copyExp : ∀ x, OkExp x → OkExp (copyExp x) := by
 refine Exp.ind fun x ih h => ?_
 cases x with
 | mk op k l r n args =>
  refine .mk _ h.op' h.k' h.l' (ok_copyRef h.r') ?_ ?_ ?_
  ·simp only [copyExp, copyExps_map, List.length_map]; exact h.n'
  ·intro y hy
   simp only [copyExp, copyExps_map] at hy
   obtain ⟨a, ha, rfl⟩ := List.mem_map.1 hy
   exact ih a ha (h.s' a ha)
  ·intro he
   simp only [copyExp, copyExps_map] at he ⊢
   rw [emp he]; rfl
theorem ok_copyBound {x : Bound} (h : OkBound x) : OkBound (copyBound x) := by
 refine ⟨by simp only [copyBound, List.length_map]; exact h.l, fun y hy => ?_, fun he => ?_⟩
 ·obtain ⟨a, ha, rfl⟩ := List.mem_map.1 hy
  exact ⟨(h.s a ha).l, (h.s a ha).s, emp⟩
 ·simp only [copyBound] at he ⊢; rw [emp he]; rfl
theorem ok_copyPSet {x : PSet} (h : OkPSet x) : OkPSet (copyPSet x) := by
 refine ⟨h.d, by simp only [copyPSet, List.length_map]; exact h.l, fun y hy => ?_, fun he => ?_⟩
 ·obtain ⟨a, ha, rfl⟩ := List.mem_map.1 hy
  exact ⟨(h.s a ha).l, (h.s a ha).s, fun e => by cases e⟩
 ·simp only [copyPSet] at he ⊢; rw [emp he]; rfl
theorem ok_copyStm : ∀ x, OkStm x → OkStm (copyStm x) := by
 refine Stm.ind fun x ihb ihe h => ?_
 cases x with
 | mk kind name low high step mark test target value bn body en els =>
  refine .mk _ h.kind' h.name' (ok_copyBound h.low') (ok_copyBound h.high') h.step' h.mark' (ok_copyPSet h.test') (ok_copyRef h.target') (ok_copyExp _ h.value') ?_ ?_ ?_ ?_ ?_ ?_
  ·simp only [copyStm, copyStms_map, List.length_map]; exact h.bn'
  ·intro y hy
   simp only [copyStm, copyStms_map] at hy
   obtain ⟨a, ha, rfl⟩ := List.mem_map.1 hy
   exact ihb a ha (h.body' a ha)
  ·simp only [copyStm, copyStms_map, List.length_map]; exact h.en'
  ·intro y hy
   simp only [copyStm, copyStms_map] at hy
   obtain ⟨a, ha, rfl⟩ := List.mem_map.1 hy
   exact ihe a ha (h.els' a ha)
  ·intro he
   simp only [copyStm, copyStms_map] at he ⊢
   rw [emp he]; rfl
  ·intro he
   simp only [copyStm, copyStms_map] at he ⊢
   rw [emp he]; rfl
mutual
theorem lenS : ∀ (s : Stm) {path : List Int} {nb : Bool} {names : List ByteArray} {i : Nat}, (stepsS path nb names i s).length ≤ wtL (encStm s)
 | ⟨kind, name, low, high, step, mark, test, target, value, bn, body, en, els⟩, path, nb, names, i => by
  have h1 := lenL body (path := path ++ [(i : Int)] ++ [0]) (nb := inNb nb ⟨kind, name, low, high, step, mark, test, target, value, bn, body, en, els⟩) (names := inNames names ⟨kind, name, low, high, step, mark, test, target, value, bn, body, en, els⟩) (i := 0)
  have h2 := lenL els (path := path ++ [(i : Int)] ++ [1]) (nb := inNb nb ⟨kind, name, low, high, step, mark, test, target, value, bn, body, en, els⟩) (names := inNames names ⟨kind, name, low, high, step, mark, test, target, value, bn, body, en, els⟩) (i := 0)
  rw [wl_Stm]
  simp only [stepsS, List.length_cons, List.length_append]
  omega
theorem lenL : ∀ (l : List Stm) {path : List Int} {nb : Bool} {names : List ByteArray} {i : Nat}, (stepsL path nb names i l).length ≤ wtR (l.map encStm)
 | [], _, _, _, _ => by simp [stepsL]
 | s :: l, path, nb, names, i => by
  have h1 := lenS s (path := path) (nb := nb) (names := names) (i := i)
  have h2 := lenL l (path := path) (nb := nb) (names := names) (i := i + 1)
  simp only [stepsL, List.length_append, List.map_cons, wtR]
  omega
end
theorem len_Info (y : Info) : (encInfo y).length = 22 := by simp [encInfo, len_Stm]
theorem f_Info_0 (y : Info) : cutV (encInfo y) 0 1 false = some (.slice .shut (y.path.map encI)) := by simp only [encInfo, go_sem, Nat.reduceEqDiff, Nat.reduceAdd, Nat.reduceLeDiff, Nat.reduceMul, Nat.reduceSub, Int.reduceLT, Int.reduceLE, Int.reduceEq, Int.reduceAdd, Int.reduceNeg, reduceIte, reduceCtorEq, Nat.reduceLT]
theorem f_Info_1 (y : Info) : cutV (encInfo y) 1 1 false = some (.slice (nk y.nb) (y.names.map encS)) := by simp only [encInfo, go_sem, Nat.reduceEqDiff, Nat.reduceAdd, Nat.reduceLeDiff, Nat.reduceMul, Nat.reduceSub, Int.reduceLT, Int.reduceLE, Int.reduceEq, Int.reduceAdd, Int.reduceNeg, reduceIte, reduceCtorEq, Nat.reduceLT]
theorem f_Info_2 (y : Info) : cutV (encInfo y) 2 19 true = some (.agg (encStm y.s)) := by
 have h := len_Stm y.s
 simp only [encInfo, go_sem, Nat.reduceEqDiff, Nat.reduceAdd, Nat.reduceLeDiff, Nat.reduceMul, Nat.reduceSub, Int.reduceLT, Int.reduceLE, Int.reduceEq, Int.reduceAdd, Int.reduceNeg, reduceIte, reduceCtorEq, Nat.reduceLT, cutV, cutL, List.length_append, h, List.length_singleton]
 simp [List.take_append, h, ofCells, strip_Stm]
end Wp
end AM
end Go.Proofs.YtimfbnojmdnlnaaGreat
end
