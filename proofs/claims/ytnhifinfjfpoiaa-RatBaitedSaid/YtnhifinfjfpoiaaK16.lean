/- Plain law of RatStarted: each end of what can have come from a house is so with a room for just as many. The contract of Starts where it gives an error. -/
import Derived.Test.YtnhifinfjfpoiaaK15
import Derived.Test.YtnhifinfjfpoiaaK06
namespace Go.Proofs.Ytnhifinfjfpoiaa
open Go.RowKit
set_option linter.unusedVariables false
set_option linter.unusedSimpArgs false

section
variable {R R' traps : List Int} {rs : List (Int × Int)} {N : List (List Int)}
theorem near_same (hl : R'.length = R.length) (h : Nat) : nearC ⟨R', traps, rs, N⟩ h = nearC ⟨R, traps, rs, N⟩ h := by
  unfold nearC
  show (if h < R'.length then _ else _) = (if h < R.length then _ else _)
  rw [hl]; rfl
theorem org_same (hl : R'.length = R.length) : ∀ k h, org ⟨R', traps, rs, N⟩ k h = org ⟨R, traps, rs, N⟩ k h
  | 0, h => by
    show (if h < R'.length then pw h else 0) = (if h < R.length then pw h else 0)
    rw [hl]
  | k + 1, h => by
    show (if h < R'.length then orgStep ⟨R', traps, rs, N⟩ k (org ⟨R', traps, rs, N⟩ k) (members (nearC ⟨R', traps, rs, N⟩ h)) else 0) = (if h < R.length then orgStep ⟨R, traps, rs, N⟩ k (org ⟨R, traps, rs, N⟩ k) (members (nearC ⟨R, traps, rs, N⟩ h)) else 0)
    rw [hl, near_same hl, show org ⟨R', traps, rs, N⟩ k = org ⟨R, traps, rs, N⟩ k from funext (org_same hl k)]
    rfl
theorem left_same (hl : R'.length = R.length) (h : Nat) : leftC ⟨R', traps, rs, N⟩ h = leftC ⟨R, traps, rs, N⟩ h := by
  unfold leftC
  rw [org_same hl]
  show (if h < R'.length ∧ _ then _ else _) = (if h < R.length ∧ _ then _ else _)
  rw [hl]; rfl
theorem needs_same (hl : R'.length = R.length) : needsC ⟨R', traps, rs, N⟩ = needsC ⟨R, traps, rs, N⟩ := by
  have row : ∀ n, needRow ⟨R', traps, rs, N⟩ n = needRow ⟨R, traps, rs, N⟩ n := fun n => by
    unfold needRow
    show (List.range R'.length).map _ = (List.range R.length).map _
    rw [hl]
    exact List.map_congr_left fun h _ => by rw [org_same hl]
  unfold needsC needsUp
  rw [show needRow ⟨R', traps, rs, N⟩ = needRow ⟨R, traps, rs, N⟩ from funext row]
theorem tot_same (hl : R'.length = R.length) : totC ⟨R', traps, rs, N⟩ = totC ⟨R, traps, rs, N⟩ := by unfold totC; rw [needs_same hl]
theorem union_same (hl : R'.length = R.length) : unionN (leftC ⟨R', traps, rs, N⟩) = unionN (leftC ⟨R, traps, rs, N⟩) := by
  rw [show leftC ⟨R', traps, rs, N⟩ = leftC ⟨R, traps, rs, N⟩ from funext (left_same hl)]
theorem set_any (l : List Int) {h : Nat} (o : Nat) (r : Int) (hh : h < l.length) : nth (l.set h r) o = if o = h then r else nth l o := by
  unfold nth
  by_cases e : o = h
  · subst e; simp [hh]
  · simp [List.getElem?_set, Ne.symm e, e]
theorem rooms_set {h : Nat} (hh : h < R.length) (h6 : h < 6) (r : Int) (V : Nat → Bool) : roomsOf (nth (R.set h r)) V = roomsOf (nth R) V - (if V h = true then nth R h else 0) + (if V h = true then r else 0) := by
  unfold roomsOf
  have e : sumN (fun j => if V j = true then nth (R.set h r) j else 0) 6 = sumN (fun j => if j = h then (if V h = true then r else 0) else (fun i => if V i = true then nth R i else 0) j) 6 := sumN_congr fun j hj => by
    rw [set_any R j r hh]
    by_cases e : j = h
    · subst e; simp
    · simp [e]
  rw [e, sumN_set, if_pos h6]
/-- With a room of so many in one house. -/
theorem start_room {h : Nat} {r : Int} (hk : fitErr ⟨R, traps, rs, N⟩ = 0) (hh : h < R.length) (h0 : 0 ≤ r) (h1 : r ≤ nth R h) :
    (r < (startOf ⟨R, traps, rs, N⟩ h).1 → fitErr ⟨R.set h r, traps, rs, N⟩ = 7 ∧ clashErr ⟨R.set h r, traps, rs, N⟩ = 0 ∧ ∃ m, m < 64 ∧ m.testBit h = true ∧ clashV ⟨R.set h r, traps, rs, N⟩ = natsI (members m)) ∧
    (¬ r < (startOf ⟨R, traps, rs, N⟩ h).1 → fitErr ⟨R.set h r, traps, rs, N⟩ = 0 ∧ nthP (startsC ⟨R.set h r, traps, rs, N⟩) h = ((startOf ⟨R, traps, rs, N⟩ h).1, min (startOf ⟨R, traps, rs, N⟩ h).2 r)) := by
  obtain ⟨q, _⟩ := fit_parts hk
  have ok := okCol_of q
  have hh6 : h < 6 := by have : R.length ≤ 6 := ok.houses.2; omega
  have hl : (R.set h r).length = R.length := by simp
  have q' : checkC ⟨R.set h r, traps, rs, N⟩ = 0 := rooms_check q hl (fun i hi => by
    have a : 0 ≤ nth R i ∧ nth R i ≤ 60 := ok.room i hi
    rw [set_any R i r hh]
    split
    · rename_i e; subst e; omega
    · exact a)
  have ok' := okCol_of q'
  have en : needsC ⟨R.set h r, traps, rs, N⟩ = needsC ⟨R, traps, rs, N⟩ := needs_same hl
  have et : totC ⟨R.set h r, traps, rs, N⟩ = totC ⟨R, traps, rs, N⟩ := tot_same hl
  have ef : fitErr ⟨R.set h r, traps, rs, N⟩ = if cutC (needsC ⟨R, traps, rs, N⟩) (nth (R.set h r)) < totC ⟨R, traps, rs, N⟩ then 7 else 0 := by
    have := fit_err ok' q'
    rw [en, et] at this; exact this
  have hfit : ∀ V, totC ⟨R, traps, rs, N⟩ ≤ roomsOf (nth R) V + elsewhere (needsC ⟨R, traps, rs, N⟩) V := fun V => by
    have a := fit_err ok q
    rw [hk] at a
    have b : ¬ cutC (needsC ⟨R, traps, rs, N⟩) (nth R) < totC ⟨R, traps, rs, N⟩ := fun h => by rw [if_pos h] at a; cases a
    have c := cut_le (needsC ⟨R, traps, rs, N⟩) (nth R) V
    omega
  have lo : (startOf ⟨R, traps, rs, N⟩ h).1 = totC ⟨R, traps, rs, N⟩ - cutC (needsC ⟨R, traps, rs, N⟩) (nth (R.set h 0)) := start_lo hk hh
  refine ⟨fun hr => ?_, fun hr => ?_⟩
  · rw [lo] at hr
    have hf : fitErr ⟨R.set h r, traps, rs, N⟩ = 7 := by
      rw [ef, if_pos]
      obtain ⟨m, _, e⟩ := cut_mem (needsC ⟨R, traps, rs, N⟩) (nth (R.set h 0))
      have a := cut_le (needsC ⟨R, traps, rs, N⟩) (nth (R.set h r)) m.testBit
      rw [rooms_set hh hh6] at a e
      cases hb : m.testBit h <;> simp only [hb, Bool.false_eq_true, if_true, if_false] at a e <;> omega
    refine ⟨hf, ?_⟩
    obtain ⟨_, ht⟩ := fit_7 hf
    obtain ⟨s1, s2⟩ := (fit_fed ok').torn_short ht
    have e1 : clashErr ⟨R.set h r, traps, rs, N⟩ = 0 := by unfold clashErr; rw [if_pos q', ht]; rfl
    refine ⟨e1, (fitX ⟨R.set h r, traps, rs, N⟩).short, s1, ?_, by unfold clashV; rw [e1]; rfl⟩
    cases hb : (fitX ⟨R.set h r, traps, rs, N⟩).short.testBit h
    · exfalso
      have s2' : roomsOf (nth (R.set h r)) (fitX ⟨R.set h r, traps, rs, N⟩).short.testBit < ratsOf (needsC ⟨R.set h r, traps, rs, N⟩) (fitX ⟨R.set h r, traps, rs, N⟩).short.testBit := s2
      rw [en, rooms_set hh hh6, hb] at s2'
      simp only [Bool.false_eq_true, if_false] at s2'
      have a := hfit (fitX ⟨R.set h r, traps, rs, N⟩).short.testBit
      have b := all_split (needsC ⟨R, traps, rs, N⟩) (rats (needsC ⟨R, traps, rs, N⟩)) (fitX ⟨R.set h r, traps, rs, N⟩).short.testBit
      have d : totC ⟨R, traps, rs, N⟩ = sumN (rats (needsC ⟨R, traps, rs, N⟩)) (needsC ⟨R, traps, rs, N⟩).length := rfl
      unfold elsewhere at a
      unfold ratsOf at s2'
      omega
    · rfl
  · have hf : fitErr ⟨R.set h r, traps, rs, N⟩ = 0 := by
      rw [ef, if_neg]
      rw [lo] at hr
      obtain ⟨m, _, e⟩ := cut_mem (needsC ⟨R, traps, rs, N⟩) (nth (R.set h r))
      have a := cut_le (needsC ⟨R, traps, rs, N⟩) (nth (R.set h 0)) m.testBit
      have b := hfit m.testBit
      rw [rooms_set hh hh6] at a e
      cases hb : m.testBit h <;> simp only [hb, Bool.false_eq_true, if_true, if_false] at a e <;> omega
    refine ⟨hf, ?_⟩
    have lo' : (startOf ⟨R.set h r, traps, rs, N⟩ h).1 = totC ⟨R.set h r, traps, rs, N⟩ - cutC (needsC ⟨R.set h r, traps, rs, N⟩) (nth ((R.set h r).set h 0)) := start_lo hf (by simpa using hh)
    rw [en, et, List.set_set, ← lo] at lo'
    rw [starts_nth _ (show h < (R.set h r).length by simpa using hh)]
    refine Prod.ext lo' ?_
    show min (startOwn ⟨R.set h r, traps, rs, N⟩ h) (nth (R.set h r) h) = min (min (startOwn ⟨R, traps, rs, N⟩ h) (nth R h)) r
    have er : nth (R.set h r) h = r := by rw [set_any R h r hh, if_pos rfl]
    have eu := union_same (traps := traps) (rs := rs) (N := N) hl
    unfold startOwn
    rw [eu, en, er]
    cases hb : (unionN (leftC ⟨R, traps, rs, N⟩)).testBit h
    · simp only [Bool.false_eq_true, if_false]; omega
    · simp only [if_true, er]; omega
end
end Go.Proofs.Ytnhifinfjfpoiaa

namespace Go.Proofs.Ytnhifinfjfpoiaa
open Go.RowKit
set_option linter.unusedVariables false

theorem Starts_bad (c : Col) (r t u n : Value) (w : World) (hc : ColAt w w.heap.size r t u n c) (hk : ¬ fitErr c = 0) :
    Calls Try.prog 54 #[.agg #[r, t, u, n]] w fun e w' => e = .returned (.tuple #[.slice none 0 0, .int .i64 (fitErr c)]) ∧ Below w.heap.size w w' := by
  have hBW : Below w.heap.size w (w.alloc (.cells #[r, t, u, n] 26)) := (Below.refl w.heap.size w).alloc (Nat.le_refl _) _
  have hcA := (hc.below hBW (Nat.le_refl _)).mono (B' := (w.alloc (.cells #[r, t, u, n] 26)).heap.size) (by simp)
  have HCK := Lib.hid (fitting_bad c r t u n _ hcA hk)
  obtain ⟨hr, htr, hu, hn⟩ := hc
  obtain ⟨ar, cr, rfl, _⟩ := hr.open
  obtain ⟨at_, ct, rfl, _⟩ := htr.open
  obtain ⟨au, cu, rfl, _⟩ := hu.open
  obtain ⟨an, cn, rfl, _⟩ := hn.open
  have HB := Lib.hid hBW
  have hk1 : (fitErr c == 0) = false := by simpa using hk
  have hk2 : (fitErr c != 0) = true := by simp [bne, hk1]
  clear hr htr hu hn hBW hk hcA
  go_enter Try.func54, Try.ntmps54
  go_wp2_with fail
  refine HCK.out.mono ?_
  rintro e w1 ⟨rfl, hb1⟩
  go_wp2_with fail
  go_ret2
  exact ⟨rfl, HB.out.trans (hb1.mono (by simp))⟩
end Go.Proofs.Ytnhifinfjfpoiaa
