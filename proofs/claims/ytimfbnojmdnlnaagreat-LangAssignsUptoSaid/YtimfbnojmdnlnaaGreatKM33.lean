/- The reference's Assigns and Find; The reference's Space and At. -/
import Derived.Test.YtimfbnojmdnlnaaGreatKSdB
import Derived.Test.YtimfbnojmdnlnaaGreatKSbMb
import Derived.Test.YtimfbnojmdnlnaaGreatKM29
set_option linter.unusedVariables false
set_option linter.unusedSimpArgs false
set_option maxRecDepth 100000
section
namespace Go.Proofs.YtimfbnojmdnlnaaGreat
namespace AM
namespace Wp
theorem rassigns_ok {p : Prg} (hp : OkPrg p) (hw : wtL (encPrg p) ≤ 400000000) (hm : ∀ s ∈ p.body, SmS s) : Sp theEnv 14 [.agg (encPrg p)] (if refPrg p then .tup [.slice (nk (infL [] p.pn p.params 0 p.body).isEmpty) ((infL [] p.pn p.params 0 p.body).map encInfo), .int .i64 0] else .tup [.slice .nil [], .int .i64 1]) := by
 have hr := refcheck_ok hp hm
 have hi := infos_ok hp.bl hp.bs p.bn true p.pn [] p.params (by simp only [encPrg, wtL, wt, encStms_map] at hw; simp; omega) (by
  have := wtR_len (enc := encS) (fun x => by simp [encS, wtL, wt]) p.params
  simp only [encPrg, wtL, wt, encStms_map] at hw; omega)
 have hi' : Sp theEnv 49 [.slice (nk p.bn) (p.body.map encStm), .slice .nil [], .slice (nk p.pn) (p.params.map encS)] (grown 57 ((infL [] p.pn p.params 0 p.body).map encInfo)) := hi
 refine Sp.fn rfl rfl rfl (by simp only [go_sem, Nat.reduceEqDiff, Nat.reduceAdd, Nat.reduceLeDiff, Nat.reduceMul, Nat.reduceSub, Int.reduceLT, Int.reduceLE, Int.reduceEq, Int.reduceAdd, Int.reduceNeg, reduceIte, reduceCtorEq, Nat.reduceLT]) (by intro n; split <;> simp only [go_sem, Nat.reduceEqDiff, Nat.reduceAdd, Nat.reduceLeDiff, Nat.reduceMul, Nat.reduceSub, Int.reduceLT, Int.reduceLE, Int.reduceEq, Int.reduceAdd, Int.reduceNeg, reduceIte, reduceCtorEq, Nat.reduceLT]) fun S => ?_
 simp only [a14, c14, go_sem, Nat.reduceEqDiff, Nat.reduceAdd, Nat.reduceLeDiff, Nat.reduceMul, Nat.reduceSub, Int.reduceLT, Int.reduceLE, Int.reduceEq, Int.reduceAdd, Int.reduceNeg, reduceIte, reduceCtorEq, Nat.reduceLT, hr.call]
 cases refPrg p
 ·simp only [go_sem, Nat.reduceEqDiff, Nat.reduceAdd, Nat.reduceLeDiff, Nat.reduceMul, Nat.reduceSub, Int.reduceLT, Int.reduceLE, Int.reduceEq, Int.reduceAdd, Int.reduceNeg, reduceIte, reduceCtorEq, Nat.reduceLT]
 ·simp only [go_sem, Nat.reduceEqDiff, Nat.reduceAdd, Nat.reduceLeDiff, Nat.reduceMul, Nat.reduceSub, Int.reduceLT, Int.reduceLE, Int.reduceEq, Int.reduceAdd, Int.reduceNeg, reduceIte, reduceCtorEq, Nat.reduceLT, hi'.call, List.isEmpty_map]
def findR : List Int → List Stm → Bool → List ByteArray → Option (Stm × Bool × List ByteArray)
 | [], _, _, _ => none
 | [i], l, nb, names => if 0 ≤ i then (l[i.toNat]?).map fun s => (s, nb, names) else none
 | i :: j :: rest, l, nb, names =>
  if 0 ≤ i then
   match l[i.toNat]? with
   | some s =>
    if s.kind = 1 ∧ j = 0 then findR rest s.body false (names ++ [s.name])
    else if s.kind = 2 ∧ j = 0 then findR rest s.body nb names
    else if s.kind = 2 ∧ j = 1 then findR rest s.els nb names
    else none
   | none => none
  else none
def findV : Option (Stm × Bool × List ByteArray) → V
 | some (s, nb, names) => .tup [.agg (encStm s), .slice (nk nb) (names.map encS), .bool true]
 | none => .tup [.agg zStm, .slice .nil [], .bool false]
def FindSpec (path : List Int) : Prop := ∀ (l : List Stm) (b pb nb : Bool) (names : List ByteArray), l.length ≤ LIM → (∀ s ∈ l, OkStm s) → (pb = true → path = []) → names.length + path.length ≤ 1000000000 →
 Sp theEnv 56 [.slice (nk b) (l.map encStm), .slice (nk pb) (path.map encI), .slice (nk nb) (names.map encS)] (findV (findR path l nb names))
theorem low_findV (o : Option (Stm × Bool × List ByteArray)) (n : Nat) : low n (findV o) = true := by
 cases o with
 | none => simp [findV, low, lowL, zStm]
 | some x => simp [findV, low, lowL, low_Stm]
def zS : Stm := ⟨0, ⟨#[]⟩, ⟨true, []⟩, ⟨true, []⟩, 0, 0, ⟨0, true, []⟩, ⟨0, true, []⟩, ⟨0, 0, ⟨true, [], 0⟩, ⟨0, true, []⟩, true, []⟩, true, [], true, []⟩
theorem findV_none : findV none = .tup [.agg (encStm zS), .slice .nil [], .bool false] := rfl
theorem find_nil : FindSpec [] := by
 intro l b pb nb names hl hok hz hn
 refine Sp.fn rfl rfl rfl (by simp only [go_sem, Nat.reduceEqDiff, Nat.reduceAdd, Nat.reduceLeDiff, Nat.reduceMul, Nat.reduceSub, Int.reduceLT, Int.reduceLE, Int.reduceEq, Int.reduceAdd, Int.reduceNeg, reduceIte, reduceCtorEq, Nat.reduceLT]) (low_findV _) fun S => ?_
 simp only [a56, c56, go_sem, Nat.reduceEqDiff, Nat.reduceAdd, Nat.reduceLeDiff, Nat.reduceMul, Nat.reduceSub, Int.reduceLT, Int.reduceLE, Int.reduceEq, Int.reduceAdd, Int.reduceNeg, reduceIte, reduceCtorEq, Nat.reduceLT, List.map_nil]
 show FinR (tupO (consO (cutV zStm 0 19 true) (some [V.slice .nil [], V.bool false]))) S _
 simp only [cut_z, go_sem, Nat.reduceEqDiff, Nat.reduceAdd, Nat.reduceLeDiff, Nat.reduceMul, Nat.reduceSub, Int.reduceLT, Int.reduceLE, Int.reduceEq, Int.reduceAdd, Int.reduceNeg, reduceIte, reduceCtorEq, Nat.reduceLT]
 exact ⟨rfl, rfl⟩
theorem z_fin {S : List Lev} {Q} (h : ∀ o, o = Out.ret (findV none) → Q o S) : FinR (tupO (consO (cutV zStm 0 19 true) (some [V.slice .nil [], V.bool false]))) S Q := by
 simp only [cut_z, go_sem, Nat.reduceEqDiff, Nat.reduceAdd, Nat.reduceLeDiff, Nat.reduceMul, Nat.reduceSub, Int.reduceLT, Int.reduceLE, Int.reduceEq, Int.reduceAdd, Int.reduceNeg, reduceIte, reduceCtorEq, Nat.reduceLT]
 exact ⟨rfl, h _ rfl⟩
theorem find_one (i : Int) : FindSpec [i] := by
 intro l b pb nb names hl hok hz hn
 have hpb : pb = false := by cases pb with
  | false => rfl
  | true => simp at hz
 subst hpb
 refine Sp.fn rfl rfl rfl (by simp only [go_sem, Nat.reduceEqDiff, Nat.reduceAdd, Nat.reduceLeDiff, Nat.reduceMul, Nat.reduceSub, Int.reduceLT, Int.reduceLE, Int.reduceEq, Int.reduceAdd, Int.reduceNeg, reduceIte, reduceCtorEq, Nat.reduceLT]) (low_findV _) fun S => ?_
 simp only [a56, c56, go_sem, Nat.reduceEqDiff, Nat.reduceAdd, Nat.reduceLeDiff, Nat.reduceMul, Nat.reduceSub, Int.reduceLT, Int.reduceLE, Int.reduceEq, Int.reduceAdd, Int.reduceNeg, reduceIte, reduceCtorEq, Nat.reduceLT, List.map_nil, List.map_cons]
 rw [Run_if]
 simp only [go_sem, Nat.reduceEqDiff, Nat.reduceAdd, Nat.reduceLeDiff, Nat.reduceMul, Nat.reduceSub, Int.reduceLT, Int.reduceLE, Int.reduceEq, Int.reduceAdd, Int.reduceNeg, reduceIte, reduceCtorEq, Nat.reduceLT]
 split
 ·rename_i h
  refine z_fin fun o ho => ⟨?_, rfl⟩
  have hn : findR [i] l nb names = none := by
   simp only [findR]
   split
   ·rename_i h0
    have : l.length ≤ i.toNat := by simp at h; omega
    rw [List.getElem?_eq_none this]; rfl
   ·rfl
  rw [hn]; exact ho
 ·rename_i h
  have h0 : 0 ≤ i ∧ i < l.length := by simp at h; omega
  obtain ⟨k, rfl⟩ : ∃ k : Nat, i = (k : Int) := ⟨i.toNat, by omega⟩
  have hk : k < l.length := by omega
  obtain ⟨x, hx⟩ : ∃ y, l[k]? = some y := ⟨l[k], List.getElem?_eq_getElem hk⟩
  have hf : findR [(k : Int)] l nb names = some (x, nb, names) := by
   simp only [findR, if_pos h0.1, Int.toNat_natCast, hx]; rfl
  have l19 : (encStm x).length = 19 := len_Stm x
  simp only [go_sem, Nat.reduceEqDiff, Nat.reduceAdd, Nat.reduceLeDiff, Nat.reduceMul, Nat.reduceSub, Int.reduceLT, Int.reduceLE, Int.reduceEq, Int.reduceAdd, Int.reduceNeg, reduceIte, reduceCtorEq, Nat.reduceLT, iaO_map hx, l19, hf, findV]
theorem cut_two {n : Nat} {kk : IntKind} {x y : List V} {xs : List (List V)} (ha : allLen n (x :: y :: xs) = true) : cutO n (.slice .shut (x :: y :: xs)) (some (.int kk 2)) none = some (.slice .shut xs) := by
 simp only [cutO, ha, if_true, ondH, natIn, ondO, Option.bind_some]
 rw [if_pos ⟨by omega, by simp; omega⟩]
 simp [cutKind]
theorem find_two (i j : Int) (rest : List Int) (ih : FindSpec rest) : FindSpec (i :: j :: rest) := by
 intro l b pb nb names hl hok hz hn
 have hpb : pb = false := by cases pb with
  | false => rfl
  | true => simp at hz
 subst hpb
 refine Sp.fn rfl rfl rfl (by simp only [go_sem, Nat.reduceEqDiff, Nat.reduceAdd, Nat.reduceLeDiff, Nat.reduceMul, Nat.reduceSub, Int.reduceLT, Int.reduceLE, Int.reduceEq, Int.reduceAdd, Int.reduceNeg, reduceIte, reduceCtorEq, Nat.reduceLT]) (low_findV _) fun S => ?_
 simp only [a56, c56, go_sem, Nat.reduceEqDiff, Nat.reduceAdd, Nat.reduceLeDiff, Nat.reduceMul, Nat.reduceSub, Int.reduceLT, Int.reduceLE, Int.reduceEq, Int.reduceAdd, Int.reduceNeg, reduceIte, reduceCtorEq, Nat.reduceLT, List.map_nil, List.map_cons]
 rw [Run_if]
 simp only [go_sem, Nat.reduceEqDiff, Nat.reduceAdd, Nat.reduceLeDiff, Nat.reduceMul, Nat.reduceSub, Int.reduceLT, Int.reduceLE, Int.reduceEq, Int.reduceAdd, Int.reduceNeg, reduceIte, reduceCtorEq, Nat.reduceLT]
 split
 ·rename_i h
  refine z_fin fun o ho => ⟨?_, rfl⟩
  have hn : findR (i :: j :: rest) l nb names = none := by
   simp only [findR]
   split
   ·rename_i h0
    have : l.length ≤ i.toNat := by simp at h; omega
    rw [List.getElem?_eq_none this]
   ·rfl
  rw [hn]; exact ho
 ·rename_i h
  have h0 : 0 ≤ i ∧ i < l.length := by simp at h; omega
  obtain ⟨k, rfl⟩ : ∃ k : Nat, i = (k : Int) := ⟨i.toNat, by omega⟩
  have hk : k < l.length := by omega
  obtain ⟨x, hx⟩ : ∃ y, l[k]? = some y := ⟨l[k], List.getElem?_eq_getElem hk⟩
  have hm := List.mem_of_getElem? hx
  have hxo := hok x hm
  have hf : findR ((k : Int) :: j :: rest) l nb names = (if x.kind = 1 ∧ j = 0 then findR rest x.body false (names ++ [x.name])
    else if x.kind = 2 ∧ j = 0 then findR rest x.body nb names
    else if x.kind = 2 ∧ j = 1 then findR rest x.els nb names
    else none) := by
   simp only [findR, if_pos h0.1, Int.toNat_natCast, hx]
  have l19 : (encStm x).length = 19 := len_Stm x
  have n1 : ¬((rest.length : Int) + 1 + 1 = 1) := by omega
  have hnm : names.length ≤ 1000000000 := by omega
  have b2 := app_copy (e := 9) (b := 16) (k := nk nb) (ys := names.map encS) (lens_S _) (by simpa using hnm) (by decide)
  have b3 : appO 9 1 16 (.slice (.own 9) (names.map encS)) (.slice (.own 9) [[V.str x.name]]) = some (.slice (.own 9) ((names ++ [x.name]).map encS)) := by
   rw [List.map_append]; exact app1 rfl (by simpa using hnm) (by decide)
  have c1 : Sp theEnv 56 [.slice (nk x.bn) (x.body.map encStm), .slice .shut (rest.map encI), .slice .shut ((names ++ [x.name]).map encS)] (findV (findR rest x.body false (names ++ [x.name]))) :=
   ih x.body x.bn false false _ hxo.bn' hxo.body' (by simp) (by simp at hn ⊢; omega)
  have c2 : Sp theEnv 56 [.slice (nk x.bn) (x.body.map encStm), .slice .shut (rest.map encI), .slice (nk nb) (names.map encS)] (findV (findR rest x.body nb names)) :=
   ih x.body x.bn false nb _ hxo.bn' hxo.body' (by simp) (by simp at hn ⊢; omega)
  have c3 : Sp theEnv 56 [.slice (nk x.en) (x.els.map encStm), .slice .shut (rest.map encI), .slice (nk nb) (names.map encS)] (findV (findR rest x.els nb names)) :=
   ih x.els x.en false nb _ hxo.en' hxo.els' (by simp) (by simp at hn ⊢; omega)
  have ct : cutO 1 (.slice .shut (encI k :: encI j :: rest.map encI)) (some (.int .i64 2)) none = some (.slice .shut (rest.map encI)) := cut_two (lens_I (k :: j :: rest))
  simp only [go_sem, Nat.reduceEqDiff, Nat.reduceAdd, Nat.reduceLeDiff, Nat.reduceMul, Nat.reduceSub, Int.reduceLT, Int.reduceLE, Int.reduceEq, Int.reduceAdd, Int.reduceNeg, reduceIte, reduceCtorEq, Nat.reduceLT, iaO_map hx, l19, n1]
  rw [Run_if]
  simp only [go_sem, Nat.reduceEqDiff, Nat.reduceAdd, Nat.reduceLeDiff, Nat.reduceMul, Nat.reduceSub, Int.reduceLT, Int.reduceLE, Int.reduceEq, Int.reduceAdd, Int.reduceNeg, reduceIte, reduceCtorEq, Nat.reduceLT]
  split
  ·rename_i h1
   simp at h1
   omega
  rw [Run_if]
  simp only [go_sem, Nat.reduceEqDiff, Nat.reduceAdd, Nat.reduceLeDiff, Nat.reduceMul, Nat.reduceSub, Int.reduceLT, Int.reduceLE, Int.reduceEq, Int.reduceAdd, Int.reduceNeg, reduceIte, reduceCtorEq, Nat.reduceLT]
  split
  ·rename_i h1
   have h1' : x.kind = 1 ∧ j = 0 := by simpa using h1
   rw [if_pos h1'] at hf
   rw [hf]
   generalize findR rest x.body false (names ++ [x.name]) = o at hf c1 ⊢
   cases o with
   | none => 
    rw [findV_none] at c1 ⊢
    simp only [go_sem, Nat.reduceEqDiff, Nat.reduceAdd, Nat.reduceLeDiff, Nat.reduceMul, Nat.reduceSub, Int.reduceLT, Int.reduceLE, Int.reduceEq, Int.reduceAdd, Int.reduceNeg, reduceIte, reduceCtorEq, Nat.reduceLT, ct, b2, b3, Wk_enter, c1.call]
   | some y =>
    simp only [findV] at c1 ⊢
    simp only [go_sem, Nat.reduceEqDiff, Nat.reduceAdd, Nat.reduceLeDiff, Nat.reduceMul, Nat.reduceSub, Int.reduceLT, Int.reduceLE, Int.reduceEq, Int.reduceAdd, Int.reduceNeg, reduceIte, reduceCtorEq, Nat.reduceLT, ct, b2, b3, Wk_enter, c1.call]
  ·rename_i h1
   have h1' : ¬(x.kind = 1 ∧ j = 0) := by simpa using h1
   rw [if_neg h1'] at hf
   rw [Run_if]
   simp only [go_sem, Nat.reduceEqDiff, Nat.reduceAdd, Nat.reduceLeDiff, Nat.reduceMul, Nat.reduceSub, Int.reduceLT, Int.reduceLE, Int.reduceEq, Int.reduceAdd, Int.reduceNeg, reduceIte, reduceCtorEq, Nat.reduceLT]
   split
   ·rename_i h2
    have h2' : x.kind = 2 ∧ j = 0 := by simpa using h2
    rw [if_pos h2'] at hf
    rw [hf]
    generalize findR rest x.body nb names = o at hf c2 ⊢
    cases o with
    | none => 
     rw [findV_none] at c2 ⊢
     simp only [go_sem, Nat.reduceEqDiff, Nat.reduceAdd, Nat.reduceLeDiff, Nat.reduceMul, Nat.reduceSub, Int.reduceLT, Int.reduceLE, Int.reduceEq, Int.reduceAdd, Int.reduceNeg, reduceIte, reduceCtorEq, Nat.reduceLT, ct, Wk_enter, c2.call]
    | some y =>
     simp only [findV] at c2 ⊢
     simp only [go_sem, Nat.reduceEqDiff, Nat.reduceAdd, Nat.reduceLeDiff, Nat.reduceMul, Nat.reduceSub, Int.reduceLT, Int.reduceLE, Int.reduceEq, Int.reduceAdd, Int.reduceNeg, reduceIte, reduceCtorEq, Nat.reduceLT, ct, Wk_enter, c2.call]
   ·rename_i h2
    have h2' : ¬(x.kind = 2 ∧ j = 0) := by simpa using h2
    rw [if_neg h2'] at hf
    rw [Run_if]
    simp only [go_sem, Nat.reduceEqDiff, Nat.reduceAdd, Nat.reduceLeDiff, Nat.reduceMul, Nat.reduceSub, Int.reduceLT, Int.reduceLE, Int.reduceEq, Int.reduceAdd, Int.reduceNeg, reduceIte, reduceCtorEq, Nat.reduceLT]
    split
    ·rename_i h3
     have h3' : x.kind = 2 ∧ j = 1 := by simpa using h3
     rw [if_pos h3'] at hf
     rw [hf]
     generalize findR rest x.els nb names = o at hf c3 ⊢
     cases o with
     | none => 
      rw [findV_none] at c3 ⊢
      simp only [go_sem, Nat.reduceEqDiff, Nat.reduceAdd, Nat.reduceLeDiff, Nat.reduceMul, Nat.reduceSub, Int.reduceLT, Int.reduceLE, Int.reduceEq, Int.reduceAdd, Int.reduceNeg, reduceIte, reduceCtorEq, Nat.reduceLT, ct, Wk_enter, c3.call]
     | some y =>
      simp only [findV] at c3 ⊢
      simp only [go_sem, Nat.reduceEqDiff, Nat.reduceAdd, Nat.reduceLeDiff, Nat.reduceMul, Nat.reduceSub, Int.reduceLT, Int.reduceLE, Int.reduceEq, Int.reduceAdd, Int.reduceNeg, reduceIte, reduceCtorEq, Nat.reduceLT, ct, Wk_enter, c3.call]
    ·rename_i h3
     have h3' : ¬(x.kind = 2 ∧ j = 1) := by simpa using h3
     rw [if_neg h3'] at hf
     rw [hf]
     refine z_fin fun o ho => ⟨ho, rfl⟩
theorem find_ok : ∀ path : List Int, FindSpec path
 | [] => find_nil
 | [i] => find_one i
 | i :: j :: rest => find_two i j rest (find_ok rest)
end Wp
end AM
end Go.Proofs.YtimfbnojmdnlnaaGreat
end
section
namespace Go.Proofs.YtimfbnojmdnlnaaGreat
namespace AM
namespace Wp
theorem rspace_ok {p : Prg} (hp : OkPrg p) (hm : ∀ s ∈ p.body, SmS s) (hpn : p.params.length ≤ 500000000) (b : Bool) (path : List Int) (hz : b = true → path = []) (hl : path.length ≤ 1000) : Sp theEnv 20 [.agg (encPrg p), .slice (nk b) (path.map encI)] (if refPrg p then (match findR path p.body p.pn p.params with | some x => .tup [.slice (nk x.2.1) (x.2.2.map encS), .int .i64 0] | none => .tup [.slice .nil [], .int .i64 5]) else .tup [.slice .nil [], .int .i64 1]) := by
 have hr := refcheck_ok hp hm
 have hf := find_ok path p.body p.bn b p.pn p.params hp.bl hp.bs hz (by omega)
 refine Sp.fn rfl rfl rfl (by simp only [go_sem, Nat.reduceEqDiff, Nat.reduceAdd, Nat.reduceLeDiff, Nat.reduceMul, Nat.reduceSub, Int.reduceLT, Int.reduceLE, Int.reduceEq, Int.reduceAdd, Int.reduceNeg, reduceIte, reduceCtorEq, Nat.reduceLT]) (by
  intro n
  split
  ·split <;> simp only [go_sem, Nat.reduceEqDiff, Nat.reduceAdd, Nat.reduceLeDiff, Nat.reduceMul, Nat.reduceSub, Int.reduceLT, Int.reduceLE, Int.reduceEq, Int.reduceAdd, Int.reduceNeg, reduceIte, reduceCtorEq, Nat.reduceLT]
  ·simp only [go_sem, Nat.reduceEqDiff, Nat.reduceAdd, Nat.reduceLeDiff, Nat.reduceMul, Nat.reduceSub, Int.reduceLT, Int.reduceLE, Int.reduceEq, Int.reduceAdd, Int.reduceNeg, reduceIte, reduceCtorEq, Nat.reduceLT]) fun S => ?_
 simp only [a20, c20, go_sem, Nat.reduceEqDiff, Nat.reduceAdd, Nat.reduceLeDiff, Nat.reduceMul, Nat.reduceSub, Int.reduceLT, Int.reduceLE, Int.reduceEq, Int.reduceAdd, Int.reduceNeg, reduceIte, reduceCtorEq, Nat.reduceLT, hr.call]
 rw [Run_if]
 simp only [go_sem, Nat.reduceEqDiff, Nat.reduceAdd, Nat.reduceLeDiff, Nat.reduceMul, Nat.reduceSub, Int.reduceLT, Int.reduceLE, Int.reduceEq, Int.reduceAdd, Int.reduceNeg, reduceIte, reduceCtorEq, Nat.reduceLT]
 split
 ·generalize findR path p.body p.pn p.params = o at hf ⊢
  cases o with
  | none =>
   rw [findV_none] at hf
   simp only [go_sem, Nat.reduceEqDiff, Nat.reduceAdd, Nat.reduceLeDiff, Nat.reduceMul, Nat.reduceSub, Int.reduceLT, Int.reduceLE, Int.reduceEq, Int.reduceAdd, Int.reduceNeg, reduceIte, reduceCtorEq, Nat.reduceLT, hf.call]
  | some y =>
   simp only [findV] at hf
   simp only [go_sem, Nat.reduceEqDiff, Nat.reduceAdd, Nat.reduceLeDiff, Nat.reduceMul, Nat.reduceSub, Int.reduceLT, Int.reduceLE, Int.reduceEq, Int.reduceAdd, Int.reduceNeg, reduceIte, reduceCtorEq, Nat.reduceLT, hf.call]
 ·simp only [go_sem, Nat.reduceEqDiff, Nat.reduceAdd, Nat.reduceLeDiff, Nat.reduceMul, Nat.reduceSub, Int.reduceLT, Int.reduceLE, Int.reduceEq, Int.reduceAdd, Int.reduceNeg, reduceIte, reduceCtorEq, Nat.reduceLT]
theorem rat_ok {p : Prg} (hp : OkPrg p) (hm : ∀ s ∈ p.body, SmS s) (hpn : p.params.length ≤ 500000000) (b : Bool) (path : List Int) (hz : b = true → path = []) (hl : path.length ≤ 1000) : Sp theEnv 22 [.agg (encPrg p), .slice (nk b) (path.map encI)] (if refPrg p then (match findR path p.body p.pn p.params with | some x => .tup [.agg (encStm x.1), .int .i64 0] | none => .tup [.agg zStm, .int .i64 5]) else .tup [.agg zStm, .int .i64 1]) := by
 have hr := refcheck_ok hp hm
 have hf := find_ok path p.body p.bn b p.pn p.params hp.bl hp.bs hz (by omega)
 refine Sp.fn rfl rfl rfl (by simp only [go_sem, Nat.reduceEqDiff, Nat.reduceAdd, Nat.reduceLeDiff, Nat.reduceMul, Nat.reduceSub, Int.reduceLT, Int.reduceLE, Int.reduceEq, Int.reduceAdd, Int.reduceNeg, reduceIte, reduceCtorEq, Nat.reduceLT]) (by
  intro n
  split
  ·split
   ·simp only [go_sem, Nat.reduceEqDiff, Nat.reduceAdd, Nat.reduceLeDiff, Nat.reduceMul, Nat.reduceSub, Int.reduceLT, Int.reduceLE, Int.reduceEq, Int.reduceAdd, Int.reduceNeg, reduceIte, reduceCtorEq, Nat.reduceLT]
   ·rfl
  ·rfl) fun S => ?_
 simp only [a22, c22, go_sem, Nat.reduceEqDiff, Nat.reduceAdd, Nat.reduceLeDiff, Nat.reduceMul, Nat.reduceSub, Int.reduceLT, Int.reduceLE, Int.reduceEq, Int.reduceAdd, Int.reduceNeg, reduceIte, reduceCtorEq, Nat.reduceLT, hr.call]
 rw [Run_if]
 simp only [go_sem, Nat.reduceEqDiff, Nat.reduceAdd, Nat.reduceLeDiff, Nat.reduceMul, Nat.reduceSub, Int.reduceLT, Int.reduceLE, Int.reduceEq, Int.reduceAdd, Int.reduceNeg, reduceIte, reduceCtorEq, Nat.reduceLT]
 split
 ·generalize findR path p.body p.pn p.params = o at hf ⊢
  cases o with
  | none =>
   rw [findV_none] at hf
   simp only [go_sem, Nat.reduceEqDiff, Nat.reduceAdd, Nat.reduceLeDiff, Nat.reduceMul, Nat.reduceSub, Int.reduceLT, Int.reduceLE, Int.reduceEq, Int.reduceAdd, Int.reduceNeg, reduceIte, reduceCtorEq, Nat.reduceLT, hf.call]
   show FinR (tupO (consO (cutV zStm 0 19 true) (some [V.int .i64 5]))) S _
   simp only [cut_z, go_sem, Nat.reduceEqDiff, Nat.reduceAdd, Nat.reduceLeDiff, Nat.reduceMul, Nat.reduceSub, Int.reduceLT, Int.reduceLE, Int.reduceEq, Int.reduceAdd, Int.reduceNeg, reduceIte, reduceCtorEq, Nat.reduceLT]
   rfl
  | some y =>
   simp only [findV] at hf
   simp only [go_sem, Nat.reduceEqDiff, Nat.reduceAdd, Nat.reduceLeDiff, Nat.reduceMul, Nat.reduceSub, Int.reduceLT, Int.reduceLE, Int.reduceEq, Int.reduceAdd, Int.reduceNeg, reduceIte, reduceCtorEq, Nat.reduceLT, hf.call]
 ·simp only [go_sem, Nat.reduceEqDiff, Nat.reduceAdd, Nat.reduceLeDiff, Nat.reduceMul, Nat.reduceSub, Int.reduceLT, Int.reduceLE, Int.reduceEq, Int.reduceAdd, Int.reduceNeg, reduceIte, reduceCtorEq, Nat.reduceLT]
  show FinR (tupO (consO (cutV zStm 0 19 true) (some [V.int .i64 1]))) S _
  simp only [cut_z, go_sem, Nat.reduceEqDiff, Nat.reduceAdd, Nat.reduceLeDiff, Nat.reduceMul, Nat.reduceSub, Int.reduceLT, Int.reduceLE, Int.reduceEq, Int.reduceAdd, Int.reduceNeg, reduceIte, reduceCtorEq, Nat.reduceLT]
  rfl
end Wp
end AM
end Go.Proofs.YtimfbnojmdnlnaaGreat
end
