/- Levels below; loops over functions; calls that hand out boxes; What is taken with its right to grow, out of a box. -/
import Derived.Test.YtimfbnojmdnlnaaGreatKWpC
set_option linter.unusedVariables false
set_option linter.unusedSimpArgs false
section
namespace Go.Proofs.YtimfbnojmdnlnaaGreat
namespace AM
namespace Wp
def getLev : St → Nat → Option Lev
 | [], _ => none
 | L :: S, l => if l = S.length then some L else getLev S l
def putLev : St → Nat → Lev → St
 | [], _, _ => []
 | L :: S, l, x => if l = S.length then x :: S else L :: putLev S l x
theorem len_putLev {l : Nat} {x : Lev} : ∀ {S : St}, (putLev S l x).length = S.length
 | [] => rfl
 | L :: S => by simp only [putLev]; split <;> simp [len_putLev]
theorem getLev_lt {l : Nat} {x : Lev} : ∀ {S : St}, getLev S l = some x → l < S.length
 | [], h => by cases h
 | L :: S, h => by
  simp only [getLev] at h
  split at h
  ·simp; omega
  ·have := getLev_lt h; simp; omega
theorem getLev_put {l : Nat} {x y : Lev} : ∀ {S : St}, getLev S l = some x → getLev (putLev S l y) l = some y
 | [], h => by cases h
 | L :: S, h => by
  simp only [getLev] at h
  simp only [putLev]
  split
  ·rename_i e; simp [getLev, e]
  ·rename_i e; rw [if_neg e] at h; simp only [getLev, len_putLev, if_neg e]; exact getLev_put h
theorem putLev_put {l : Nat} {x y : Lev} : ∀ {S : St}, putLev (putLev S l x) l y = putLev S l y
 | [] => rfl
 | L :: S => by
  simp only [putLev]
  split
  ·rename_i e; simp [putLev, e]
  ·rename_i e; simp only [putLev, len_putLev, if_neg e]; rw [putLev_put]
theorem putLev_self {l : Nat} {x : Lev} : ∀ {S : St}, getLev S l = some x → putLev S l x = S
 | [], h => by cases h
 | L :: S, h => by
  simp only [getLev] at h
  simp only [putLev]
  split
  ·rename_i e; rw [if_pos e] at h; cases h; rfl
  ·rename_i e; rw [if_neg e] at h; rw [putLev_self h]
theorem getLev_up {l : Nat} {x : Lev} {T : Lev} {S : St} (h : getLev S l = some x) : getLev (T :: S) l = some x := by
 have := getLev_lt h
 simp only [getLev]; rw [if_neg (by omega)]; exact h
theorem putLev_up {l : Nat} {x y : Lev} {T : Lev} {S : St} (h : getLev S l = some x) : putLev (T :: S) l y = T :: putLev S l y := by
 have := getLev_lt h
 simp only [putLev]; rw [if_neg (by omega)]
theorem getBox_lev {l i : Nat} : ∀ {S : St}, getBox S l i = (getLev S l).bind fun L => dz L.bs[i]?
 | [] => rfl
 | L :: S => by
  simp only [getBox, getLev]
  split
  ·rfl
  ·exact getBox_lev
theorem getLp_lev {l : Nat} : ∀ {S : St}, getLp S l = (getLev S l).bind fun L => L.lp
 | [] => rfl
 | L :: S => by
  simp only [getLp, getLev]
  split
  ·rfl
  ·exact getLp_lev
theorem setBox_lev {l i : Nat} {cs : List V} {x : Lev} : ∀ {S : St}, getLev S l = some x → setBox S l i cs = putLev S l { x with bs := x.bs.set i cs }
 | [], h => by cases h
 | L :: S, h => by
  simp only [getLev] at h
  simp only [setBox, putLev]
  split
  ·rename_i e; rw [if_pos e] at h; cases h; rfl
  ·rename_i e; rw [if_neg e] at h; rw [setBox_lev h]
theorem setLp_lev {l : Nat} {p : Option Lp} {x : Lev} : ∀ {S : St}, getLev S l = some x → setLp S l p = putLev S l { x with lp := p }
 | [], h => by cases h
 | L :: S, h => by
  simp only [getLev] at h
  simp only [setLp, putLev]
  split
  ·rename_i e; rw [if_pos e] at h; cases h; rfl
  ·rename_i e; rw [if_neg e] at h; rw [setLp_lev h]
theorem getLev_other {l m : Nat} {x : Lev} (hne : m ≠ l) : ∀ {S : St}, getLev (putLev S l x) m = getLev S m
 | [] => rfl
 | L :: S => by
  simp only [putLev]
  split
  ·rename_i e; simp only [getLev]; rw [if_neg (by omega), if_neg (by omega)]
  ·simp only [getLev, len_putLev]
   split
   ·rfl
   ·exact getLev_other hne
section
variable {E : Env} {ks : List KI} {F : Fr} {S R : St} {Q : Ex → Fr → St → Prop} {bs : List Blk} {d : Option Nat}
def RngEnd (E : Env) (ks : List KI) (F : Fr) (Q : Ex → Fr → St → Prop) : Out → St → Prop
 | .ret _, ⟨L, some p⟩ :: R => (match p.jump with
  | none => Run E ks F (⟨L, none⟩ :: R) Q
  | some .ret => RunE E ks .ret F (⟨L, none⟩ :: R) Q
  | some (.exit id) => RunE E ks (.exit id) F (⟨L, none⟩ :: R) Q
  | _ => False)
 | _, _ => False
theorem Run_rng {x : Opd} {ps : List Nat} {asg body : ACode} {f : Nat} {cs : List V} {B : List (List V)} (hx : evO F x = .func (.func f) cs) (ht : tames cs = true)
  (h : CallQ E (.fn f) (.func (.yield R.length) [] :: cs.map strip) (⟨B, some ⟨fun t => calm (F t), ps, asg, body, none⟩⟩ :: R) (RngEnd E ks F Q)) : Run E (.c (.rng x ps asg body) :: ks) F (⟨B, none⟩ :: R) Q := by
 obtain ⟨o, S', ⟨K, hK⟩, hq⟩ := h
 unfold RngEnd at hq
 split at hq
 ·rename_i v L p R'
  have key : ∀ e, (match p.jump with | none => some Ex.nrm | some .ret => some .ret | some (.exit id) => some (.exit id) | _ => none) = some e → RunE E ks e F (⟨L, none⟩ :: R') Q → Run E (.c (.rng x ps asg body) :: ks) F (⟨B, none⟩ :: R) Q := by
   intro e he hr
   refine ⟨(e, F, ⟨L, none⟩ :: R'), ⟨max K 1, fun j k hj hk => ?_⟩, hr⟩
   obtain ⟨k, rfl⟩ : ∃ m, k = m + 1 := ⟨k - 1, by omega⟩
   have hj := hK j (by omega)
   simp only [codeN, hx, ht, if_true, Option.bind_some, hj]
   cases hp : p.jump with
   | none => rw [hp] at he; cases he; rfl
   | some e' =>
    rw [hp] at he
    cases e' <;> first | (cases he; rfl) | (cases he; done)
  cases hp : p.jump with
  | none => rw [hp] at hq; exact key .nrm (by rw [hp]) hq
  | some e' =>
   rw [hp] at hq
   cases e' with
   | ret => exact key .ret (by rw [hp]) hq
   | exit id => exact key (.exit id) (by rw [hp]) hq
   | _ => exact hq.elim
 ·exact hq.elim
def RoundEnd (l : Nat) (P : Out → St → Prop) : Ex → Fr → St → Prop
 | e, _, _ :: R => ∃ F ps asg body L, getLev R l = some ⟨L, some ⟨F, ps, asg, body, some .nrm⟩⟩ ∧ (match e with
   | .nrm => P (.ret (.bool true)) (putLev R l ⟨L, some ⟨F, ps, asg, body, none⟩⟩)
   | .ret => P (.ret (.bool false)) (putLev R l ⟨L, some ⟨F, ps, asg, body, some .ret⟩⟩)
   | .exit id => P (.ret (.bool false)) (putLev R l ⟨L, some ⟨F, ps, asg, body, some (.exit id)⟩⟩)
   | .pan _ => False)
 | _, _, [] => False
theorem CallQ_yield {l : Nat} {args : List V} {P : Out → St → Prop} {F : Fr} {ps : List Nat} {asg body : ACode} {B : List (List V)} (h1 : getLev S l = some ⟨B, some ⟨F, ps, asg, body, none⟩⟩) (hn : args.length = ps.length)
  (h : Run E [.c asg] (putPs F ps args) (⟨[], none⟩ :: S) fun e F1 S1 => e = .nrm ∧ ∃ B2 F2 ps2 asg2 body2, getLev S1 l = some ⟨B2, some ⟨F2, ps2, asg2, body2, none⟩⟩ ∧
   Run E [.c body] F1 (putLev S1 l ⟨B2, some ⟨F2, ps2, asg2, body2, some .nrm⟩⟩) (RoundEnd l P)) : CallQ E (.yield l) args S P := by
 obtain ⟨⟨e1, F1, S1⟩, ⟨K1, k1⟩, he1, B2, F2, ps2, asg2, body2, h2, h3⟩ := EvQ_run h
 simp only at he1 h2 h3
 subst he1
 obtain ⟨⟨e3, F3, S3⟩, ⟨K3, k3⟩, h4⟩ := EvQ_run h3
 simp only at h4
 have key : ∀ o S', endRound l (some (e3, F3, S3)) = some (o, S') → P o S' → CallQ E (.yield l) args S P := by
  intro o S' he hp
  refine ⟨o, S', ⟨max K1 K3 + 1, fun j hj => ?_⟩, hp⟩
  obtain ⟨j, rfl⟩ : ∃ m, j = m + 1 := ⟨j - 1, by omega⟩
  have e1 := k1 j j (by omega) (by omega)
  have e3 := k3 j j (by omega) (by omega)
  have hlp : getLp S l = some ⟨F, ps, asg, body, none⟩ := by rw [getLp_lev, h1]; rfl
  have hlp1 : getLp S1 l = some ⟨F2, ps2, asg2, body2, none⟩ := by rw [getLp_lev, h2]; rfl
  simp only [callN, callBody, hlp, hn, if_true, e1, hlp1, setLp_lev h2, e3]
  exact he
 cases S3 with
 | nil => simp only [RoundEnd] at h4
 | cons T R =>
  simp only [RoundEnd] at h4
  obtain ⟨F4, ps4, asg4, body4, L4, h5, h6⟩ := h4
  have hlp : getLp R l = some ⟨F4, ps4, asg4, body4, some .nrm⟩ := by rw [getLp_lev, h5]; rfl
  cases e3 with
  | nrm => exact key _ _ (by simp only [endRound, hlp, setLp_lev h5]) h6
  | ret => exact key _ _ (by simp only [endRound, hlp, setLp_lev h5]) h6
  | exit id => exact key _ _ (by simp only [endRound, hlp, setLp_lev h5]) h6
  | pan v => exact h6.elim
theorem Call_esc {f : Nat} {args : List V} {v : V} {L : List (List V)} {B : List (List V)} {lp : Option Lp} (h : CallIs E (.fn f) args [] (.esc v L) []) (hl : lowL 0 args = true) (hv : bare v = true) (hL : barest L = true) :
  Call E f args d (.s bs) ks F (⟨B, lp⟩ :: R) Q = Wk E (.s bs) ks (putO F d (reloc 0 R.length (blen B) v)) (⟨B ++ L.map (relocL 0 R.length (blen B)), lp⟩ :: R) Q := by
 simp only [Call, callK, hl, if_true]
 rw [h.q]
 simp only [hv, hL, true_and]
 rfl
theorem CallvY {l : Nat} {xs cs : List V} {o : Out} {S' : St} (h : CallIs E (.yield l) xs S o S') (hs : xs.map strip = xs) (ht : tames xs = true) : Callv E (.func (.yield l) cs) xs d (.s bs) ks F S Q = backW F d (fun F S => Wk E (.s bs) ks F S Q) (fun v S => RunE E ks (.pan v) F S Q) o S' := by
 simp only [Callv, callvK, hs, ht, true_and]
 exact h.q
end
end Wp
end AM
end Go.Proofs.YtimfbnojmdnlnaaGreat
end
section
namespace Go.Proofs.YtimfbnojmdnlnaaGreat
namespace AM
namespace Wp
section
variable {E : Env} {ks : List KI} {F : Fr} {S R : St} {Q : Ex → Fr → St → Prop} {os all : List AOper} {bs : List Blk} {d : Option Nat} {cn : Cn}
def isOwn : V → Bool
 | .slice (.own _) _ => true
 | _ => false
@[go_sem] theorem isOwn_nil {xs : List (List V)} : isOwn (.slice .nil xs) = false := _root_.id rfl
@[go_sem] theorem isOwn_nk {b : Bool} {xs : List (List V)} : isOwn (.slice (nk b) xs) = false := by cases b <;> rfl
def cellO (c : Option (List V)) (o : Nat) : Option V := c.bind fun cs => cs[o]?
@[go_sem] theorem cellO_some {cs : List V} {o : Nat} : cellO (some cs) o = cs[o]? := _root_.id rfl
attribute [go_sem] List.getElem?_cons_zero List.getElem?_cons_succ Option.getD_some List.set_cons_zero List.set_cons_succ
def TakC (E : Env) (c : Option V) (l i o n : Nat) (g : Bool) (d : Option Nat) (cn : Cn) (ks : List KI) (F : Fr) (S : St) (Q : Ex → Fr → St → Prop) : Prop := cellO (getBox S l i) o = c → Tak E (.ptr l i o) n g d cn ks F S Q
@[go_sem] theorem Tak_ptr {l i o n : Nat} {g : Bool} : Tak E (.ptr l i o) n g d cn ks F S Q = TakC E (cellO (getBox S l i) o) l i o n g d cn ks F S Q := propext ⟨fun h _ => h, fun h => h rfl⟩
@[go_sem] theorem TakC_own {l i o e : Nat} {xs : List (List V)} (h : cellO (getBox S l i) o = some (.slice (.own e) xs)) : TakC E (some (.slice (.own e) xs)) l i o 1 false d cn ks F S Q = Wk E cn ks (putO F d (.slice (.own e) xs)) (setBox S l i (((getBox S l i).getD []).set o (.slice .shut xs))) Q := by
 simp only [TakC, h, true_implies]
 simp only [cellO] at h
 simp [Tak, ldtK, h]
@[go_sem] theorem TakC_val {l i o n : Nat} {g : Bool} {v : V} (h : cellO (getBox S l i) o = some v) (hv : isOwn v = false) : TakC E (some v) l i o n g d cn ks F S Q = WkV E (ldO S n g (.ptr l i o)) d cn ks F S Q := by
 simp only [TakC, h, true_implies]
 simp only [cellO] at h
 simp only [Tak, ldtK, h]
 cases v with
 | slice k xs => cases k with
  | own e => cases hv
  | _ => rfl
 | _ => rfl
def TakF (E : Env) (x : V) (n : Nat) (g : Bool) (d : Option Nat) (cn : Cn) (ks : List KI) (F : Fr) (S : St) (Q : Ex → Fr → St → Prop) : Prop := Wf.ldtF x n g d F S fun F => Wk E cn ks F S Q
@[go_sem] theorem WkF_ldt {n : Nat} {g : Bool} {x : Opd} : Wk E (.f all (⟨d, .ld true n g x, none⟩ :: os) bs) ks F S Q = TakF E (evO F x) n g d (.f all os bs) ks F S Q := _root_.id rfl
def TakFC (E : Env) (c : Option V) (l i o n : Nat) (g : Bool) (d : Option Nat) (cn : Cn) (ks : List KI) (F : Fr) (S : St) (Q : Ex → Fr → St → Prop) : Prop := cellO (getBox S l i) o = c → TakF E (.ptr l i o) n g d cn ks F S Q
@[go_sem] theorem TakF_ptr {l i o n : Nat} {g : Bool} : TakF E (.ptr l i o) n g d cn ks F S Q = TakFC E (cellO (getBox S l i) o) l i o n g d cn ks F S Q := propext ⟨fun h _ => h, fun h => h rfl⟩
@[go_sem] theorem TakFC_own {l i o e : Nat} {xs : List (List V)} (h : cellO (getBox S l i) o = some (.slice (.own e) xs)) : TakFC E (some (.slice (.own e) xs)) l i o 1 false d cn ks F S Q = Wk E cn ks (putO F d (.mir l i o e xs)) S Q := by
 simp only [TakFC, h, true_implies]
 simp only [cellO] at h
 simp [TakF, Wf.ldtF, h]
@[go_sem] theorem TakFC_val {l i o n : Nat} {g : Bool} {v : V} (h : cellO (getBox S l i) o = some v) (hv : isOwn v = false) : TakFC E (some v) l i o n g d cn ks F S Q = WkV E (ldO S n g (.ptr l i o)) d cn ks F S Q := by
 simp only [TakFC, h, true_implies]
 simp only [cellO] at h
 simp only [TakF, Wf.ldtF, h]
 cases v with
 | slice k xs => cases k with
  | own e => cases hv
  | _ => rfl
 | _ => rfl
def unm (l i p : Nat) (F : Fr) : Fr := fun t => unmir l i p (F t)
@[go_sem] theorem unm_app {l i p t : Nat} : unm l i p F t = unmir l i p (F t) := _root_.id rfl
@[go_sem] theorem unmir_tame {l i p : Nat} {v : V} (h : tame v = true) : unmir l i p v = v := by cases v <;> first | rfl | cases h
def MirK (E : Env) (c : Option (List V)) (l i p e : Nat) (xs : List (List V)) (d : Nat) (os : List AOper) (bs : List Blk) (ks : List KI) (F : Fr) (S : St) (Q : Ex → Fr → St → Prop) : Prop :=
 match c with
 | some cs => WkS E os bs ks (put (unm l i p F) d (.slice (.own e) xs)) (setBox S l i (cs.set p (.slice .shut xs))) Q
 | none => WkS E os bs ks F S Q
@[go_sem] theorem MirK_some {cs : List V} {l i p e d : Nat} {xs : List (List V)} : MirK E (some cs) l i p e xs d os bs ks F S Q = WkS E os bs ks (put (unm l i p F) d (.slice (.own e) xs)) (setBox S l i (cs.set p (.slice .shut xs))) Q := _root_.id rfl
@[go_sem] theorem WkSv_mir {l i p e d : Nat} {xs : List (List V)} {op : AOp} {gd : Option (Nat × Bool)} (hv : F d = .mir l i p e xs) : WkSv E (.mir l i p e xs) d op gd os bs ks F S Q = MirK E (getBox S l i) l i p e xs d os bs ks F S Q := by
 simp only [WkSv, hv, true_implies, WkS, settle, settle1, MirK]
 cases getBox S l i <;> rfl
def CallvG (E : Env) (x : V) (xs : List V) (gv : V) (b : Bool) (d : Option Nat) (cn : Cn) (ks : List KI) (F : Fr) (S : St) (Q : Ex → Fr → St → Prop) : Prop :=
 gv ≠ .undef ∧ (gv = .bool b → Callv E x xs d cn ks F S Q) ∧ (gv ≠ .bool b → Wk E cn ks (putO F d (.tup [])) S Q)
@[go_sem] theorem WkG_callv {x : Opd} {xs : List Opd} {t : Nat} {b : Bool} : Wk E (.s (.seq ⟨d, .callv x xs, some (t, b)⟩ :: bs)) ks F S Q = CallvG E (evO F x) (xs.map (evO F)) (F t) b d (.s bs) ks F S Q := _root_.id rfl
@[go_sem] theorem CallvG_ff {x : V} {xs : List V} : CallvG E x xs (.bool false) false d cn ks F S Q = Callv E x xs d cn ks F S Q := by simp [CallvG]
@[go_sem] theorem CallvG_tf {x : V} {xs : List V} : CallvG E x xs (.bool true) false d cn ks F S Q = Wk E cn ks (putO F d (.tup [])) S Q := by simp [CallvG]
theorem CallvS {f : Nat} {args xs cs : List V} {o : Out} {S' : St} (h : CallIs E (.fn f) args S o S') (ha : (xs ++ cs).map strip = args) (ht : tames args = true) : Callv E (.func (.func f) cs) xs d (.s bs) ks F S Q = backW F d (fun F S => Wk E (.s bs) ks F S Q) (fun v S => RunE E ks (.pan v) F S Q) o S' := by
 subst ha
 simp only [Callv, callvK, ht, true_and]
 exact h.q
def FG (gv : V) (b : Bool) (A B : Prop) : Prop := gv ≠ .undef ∧ (gv = .bool b → A) ∧ (gv ≠ .bool b → B)
@[go_sem] theorem FG_ff {A B : Prop} : FG (.bool false) false A B = A := by simp [FG]
@[go_sem] theorem FG_tf {A B : Prop} : FG (.bool true) false A B = B := by simp [FG]
@[go_sem] theorem WkFG_app {e n b t : Nat} {b' : Bool} {x y : Opd} : Wk E (.f all (⟨d, .app e n b x y, some (t, b')⟩ :: os) bs) ks F S Q = FG (F t) b' (Wk E (.f all (⟨d, .app e n b x y, none⟩ :: os) bs) ks F S Q) (Wk E (.f all os bs) ks (putO F d (.tup [])) S Q) := _root_.id rfl
@[go_sem] theorem grown_cons {e : Nat} {x : List V} {xs : List (List V)} : grown e (x :: xs) = .slice (.own e) (x :: xs) := _root_.id rfl
@[go_sem] theorem grown_nil' {e : Nat} : grown e [] = .slice .nil [] := _root_.id rfl
@[go_sem] theorem cutV_step {c : V} {cs : List V} {o n : Nat} {g : Bool} : cutV (c :: cs) (o + 1) n g = cutV cs o n g := by
 simp only [cutV, cutL, List.length_cons, List.drop_succ_cons]
 congr 1
 by_cases h : o + n ≤ cs.length
 ·rw [if_pos h, if_pos (by omega)]
 ·rw [if_neg h, if_neg (by omega)]
@[go_sem] theorem cutV_here {c : V} {cs : List V} : cutV (c :: cs) 0 1 false = some (strip c) := by simp [cutV, cutL, ofCells]
theorem app1 {e n b : Nat} {k : SK} {xs : List (List V)} {y : List V} (h : y.length = n) (h1 : xs.length ≤ 1000000000) (h2 : b ≤ 1000) : appO e n b (.slice (.own e) xs) (.slice k [y]) = some (.slice (.own e) (xs ++ [y])) := by
 refine appO_own (by simp [allLen, h]) ?_ (by simp; omega)
 simp only [List.length_singleton]
 calc (xs.length + 1) * b ≤ (1000000000 + 1) * 1000 := Nat.mul_le_mul (by omega) h2
  _ ≤ _ := by decide
@[go_sem] theorem app0 {e n b : Nat} {k : SK} {y : List V} (h : y.length = n) (h2 : b ≤ 1000) : appO e n b (.slice .nil []) (.slice k [y]) = some (.slice (.own e) [y]) := by
 refine appO_nil (by simp [allLen, h]) ?_ (by simp)
 simp only [List.length_singleton]; omega
end
end Wp
end AM
end Go.Proofs.YtimfbnojmdnlnaaGreat
end
