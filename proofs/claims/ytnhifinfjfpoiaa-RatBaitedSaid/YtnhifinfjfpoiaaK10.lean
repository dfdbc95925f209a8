/- Who may still be there, in plain Lean. Contracts of the closures of rat.Fits: rats of a list are taken from rooms. What rat.Fits asks, in plain Lean: rats are taken from rooms list by list just if the lists are a truth. What the statements' colonies are, in plain Lean: rats that run and are caught, night by night, are a truth. The statements' colonies are right, and their rats are a truth; a colony with a truth does not clash. Plain law of the setting up of a colony: runs that are added, and where the rats are before the first night. Plain law of Made's nights: what the traps of a house catch, rat by rat, house by house, and what is left. Parts of memory that lie apart: what turns one leaves the others as they are. Is a run among those of a colony, turned round? The question Made asks of its runs. A matrix whose rows are made one by one. Regions that draw their order, with a condition on the world that may turn with what has come up: a load is taken first although the region's last stores write its cell. -/
import Derived.Test.YtnhifinfjfpoiaaK02
import Derived.Test.YtnhifinfjfpoiaaK04
import Derived.Test.YtnhifinfjfpoiaaK09
import Derived.Test.YtnhifinfjfpoiaaK05
import Derived.Test.YtnhifinfjfpoiaaK01
import Derived.Deep.RegionHeld3
namespace Go.Proofs.Ytnhifinfjfpoiaa
open Go.RowKit
set_option linter.unusedVariables false

/-- Can a rat be in house h after the last night that has come from house f? -/
def stayB (c : Col) (f h : Nat) : Bool := if c.nights.length = 0 then comeB c f 0 h else comeB c f (c.nights.length - 1) h && fullB c h (c.nights.length - 1)
theorem left_bit {c : Col} (ok : OkCol c) {h f : Nat} (hh : h < c.rooms.length) (hf : f < c.rooms.length) : (leftC c h).testBit f = stayB c f h := by
  unfold leftC stayB
  by_cases h0 : c.nights.length = 0
  · rw [if_neg (by omega), if_pos h0, h0]
    exact org_come ok 0 h f hh hf (Nat.zero_le _)
  · rw [if_neg h0, ← org_come ok (c.nights.length - 1) h f hh hf (by omega)]
    cases hq : fullB c h (c.nights.length - 1)
    · rw [if_pos ⟨hh, by omega, rfl⟩]; simp
    · rw [if_neg (by simp)]; simp
theorem org_out {c : Col} {h : Nat} (hh : ¬ h < c.rooms.length) : ∀ k, org c k h = 0
  | 0 => by unfold org; rw [if_neg hh]
  | k + 1 => by unfold org; rw [if_neg hh]
theorem left_out {c : Col} {h : Nat} (hh : ¬ h < c.rooms.length) : leftC c h = 0 := by
  unfold leftC; rw [if_neg (by omega), org_out hh]
theorem left_in {c : Col} (ok : OkCol c) {h f : Nat} (hb : (leftC c h).testBit f = true) : h < c.rooms.length ∧ f < c.rooms.length := by
  by_cases hh : h < c.rooms.length
  · refine ⟨hh, ?_⟩
    unfold leftC at hb
    split at hb
    · simp at hb
    · exact org_only ok _ h f hb
  · rw [left_out hh] at hb; simp at hb
theorem anyB_ex (p : Nat → Bool) : ∀ n, anyB p n = true ↔ ∃ i, i < n ∧ p i = true
  | 0 => by simp [anyB]
  | n + 1 => by
    rw [anyB_succ, Bool.or_eq_true, anyB_ex p n]
    constructor
    · rintro (⟨h, h1, h2⟩ | h)
      · exact ⟨h, by omega, h2⟩
      · exact ⟨n, by omega, h⟩
    · rintro ⟨h, h1, h2⟩
      by_cases q : h < n
      · exact .inl ⟨h, q, h2⟩
      · obtain rfl : h = n := by omega
        exact .inr h2
theorem union_bit (g : Nat → Nat) (f : Nat) : ∀ k, (unionTo g k).testBit f = true ↔ ∃ h, h < k ∧ (g h).testBit f = true
  | 0 => by simp [unionTo]
  | k + 1 => by
    unfold unionTo
    rw [orN_bit, Bool.or_eq_true, union_bit g f k]
    constructor
    · rintro (⟨h, h1, h2⟩ | h)
      · exact ⟨h, by omega, h2⟩
      · exact ⟨k, by omega, h⟩
    · rintro ⟨h, h1, h2⟩
      by_cases q : h < k
      · exact .inl ⟨h, q, h2⟩
      · obtain rfl : h = k := by omega
        exact .inr h2
end Go.Proofs.Ytnhifinfjfpoiaa

namespace Go.Proofs.Ytnhifinfjfpoiaa
open Go.RowKit
set_option linter.unusedVariables false
set_option linter.unusedSimpArgs false

theorem fits1_any (a : Option Addr) (n cap m bx : Nat) (w : World) (hn : n ≤ 140737488355328) (hc : w.cell? ⟨bx, 0, none⟩ = some (.int .i64 m)) :
    Calls Try.prog 131 #[.slice a n cap, .pointer (some ⟨bx, 0, none⟩)] w fun e w' => e = .returned (.bool ((n : Int) == (m : Int))) ∧ w = w' := by
  go_enter Try.func131, Try.ntmps131
  go_wp2
  go_ret
  exact ⟨rfl, rfl⟩

/-- Block g: rooms, of which the first n are looked at. -/
def RoomAt (w : World) (g n q : Nat) (rm : Nat → Int) : Prop :=
  ∃ A : Array Value, w.heap[g]? = some (.cells A 3 (0, 0)) ∧ n ≤ A.size ∧ n ≤ q ∧ ∀ j, j < n → A[j]? = some (.int .i64 (rm j))
theorem RoomAt.cell {w : World} {g n q : Nat} {rm : Nat → Int} (h : RoomAt w g n q rm) {j : Nat} (hj : j < n) : w.cell? ⟨g, j, none⟩ = some (.int .i64 (rm j)) := by
  obtain ⟨A, h1, h2, _, h3⟩ := h
  exact (cell_of_row w g _ _ _ _ h1).trans (h3 j hj)
theorem RoomAt.free {w : World} {g n q : Nat} {rm : Nat → Int} (h : RoomAt w g n q rm) (j : Nat) : w.frozen? ⟨g, j, none⟩ = false := by
  obtain ⟨A, h1, _, _⟩ := h
  exact frozen_of_row w g _ _ _ h1
theorem RoomAt.lt {w : World} {g n q : Nat} {rm : Nat → Int} (h : RoomAt w g n q rm) : g < w.heap.size := by
  obtain ⟨A, h1, _, _⟩ := h
  exact (Array.getElem?_eq_some_iff.1 h1).1
theorem RoomAt.set {w : World} {g n q : Nat} {rm : Nat → Int} (h : RoomAt w g n q rm) {k : Nat} (x : Int) (hk : k < n) : RoomAt (w.setCell ⟨g, k, none⟩ (.int .i64 x)) g n q (fun j => if j = k then x else rm j) := by
  obtain ⟨A, h1, h2, h4, h3⟩ := h
  refine ⟨A.setIfInBounds k (.int .i64 x), heap_setCell_same w g _ _ _ _ h1, by simp [h2], h4, fun j hj => ?_⟩
  rw [Array.getElem?_setIfInBounds]
  by_cases e : j = k
  · subst e; simp; omega
  · rw [if_neg (fun h => e h.symm)]
    show A[j]? = some (.int .i64 (if j = k then x else rm j))
    rw [if_neg e]; exact h3 j hj
theorem RoomAt.same {w : World} {g n q : Nat} {rm rm' : Nat → Int} (h : RoomAt w g n q rm) (e : ∀ j, j < n → rm j = rm' j) : RoomAt w g n q rm' := by
  obtain ⟨A, h1, h2, h4, h3⟩ := h
  exact ⟨A, h1, h2, h4, fun j hj => by rw [← e j hj]; exact h3 j hj⟩
theorem RoomAt.below {w w' : World} {g n q B : Nat} {rm : Nat → Int} (h : RoomAt w g n q rm) (hb : Below B w w') (hB : w.heap.size ≤ B) : RoomAt w' g n q rm := by
  obtain ⟨A, h1, h2⟩ := h
  exact ⟨A, (hb.block g (Nat.lt_of_lt_of_le (Array.getElem?_eq_some_iff.1 h1).1 hB)).trans h1, h2⟩
theorem RoomAt.of_owns {w : World} {b g n q : Nat} {l : List Int} (h : w.ownsRow b 3 1 (.slice (some ⟨g, 0, none⟩) n q) n (intsV l)) (hl : l.length = n) : RoomAt w g n q (nth l) := by
  obtain ⟨_, h | ⟨g', cap, cur, e, _, hg, hn, hm, hs, ht⟩⟩ := h
  · cases h.1
  · cases e
    refine ⟨cur, hg, by omega, hn, fun j hj => ?_⟩
    rw [Nat.mul_one] at ht
    have h1 : (List.take n cur.toList)[j]? = (intsV l)[j]? := by rw [ht]
    rw [List.getElem?_take, if_pos hj, Array.getElem?_toList] at h1
    rw [h1]
    simp [intsV, nth, hl, hj]

theorem IsRows.on {w w' : World} {v : Value} {xs : List (List Int)} (h : IsRows w w.heap.size v xs) (hb : Below w.heap.size w w') : IsRows w' w'.heap.size v xs := (h.below hb (Nat.le_refl _)).mono hb.size
theorem owns_ne {w : World} {B e sz n m cap : Nat} {b off : Nat} {xs : List Value} (h : w.ownsRow B e sz (.slice (some ⟨b, off, none⟩) m cap) n xs) : B ≤ b := by
  rcases h.2 with ⟨hc, _⟩ | ⟨g, c, cur, hc, hB, _⟩
  · cases hc
  · cases hc; exact hB
/-- May so many rats have come from a house with so much room? -/
def takeOk (l : List Int) (rm : Nat → Int) (f j : Nat) : Prop := 0 ≤ nth l j ∧ nth l j ≤ rm j ∧ (0 < nth l j → f.testBit j = true)
def TakesP (l : List Int) (rm : Nat → Int) (f n g q : Nat) (w : World) (e : Ending) (w' : World) : Prop :=
  ((∀ j, j < n → takeOk l rm f j) → e = .returned (.bool true) ∧ RoomAt w' g n q (fun j => rm j - nth l j)) ∧ ((∃ j, j < n ∧ ¬ takeOk l rm f j) → e = .returned (.bool false)) ∧ Kept g g g w w'

set_option maxRecDepth 100000 in
set_option maxHeartbeats 2000000 in
theorem takes_any (l : List Int) (lv : Value) (f : Nat) (bx g n q B : Nat) (rm : Nat → Int) (w : World) (hl : IsInts w B lv l) (hB : B ≤ g) (hn : l.length = n) (h6 : n ≤ 6) (hf : f < 64) (hbx : bx ≠ g) (hq : n ≤ 140737488355328)
    (hbox : w.cell? ⟨bx, 0, none⟩ = some (.slice (some ⟨g, 0, none⟩) n q)) (hr : RoomAt w g n q rm) (hrm : ∀ j, j < n → 0 ≤ rm j ∧ rm j ≤ 60) :
    Calls Try.prog 132 #[lv, .int .i64 f, .pointer (some ⟨bx, 0, none⟩)] w (TakesP l rm f n g q w) := by
  subst hn
  obtain ⟨al, cl, rfl, _, _, l3⟩ := hl.open
  have hI := hl.2
  have hblt : bx < w.heap.size := block_lt_of_cell hbox
  have hqn : l.length ≤ q := by obtain ⟨A, _, _, h, _⟩ := hr; exact h
  have L3 := Lib.hid l3; have HI := Lib.hid hI; have HR := Lib.hid hr; have HRM := Lib.hid hrm; have HBX := Lib.hid (And.intro hbox (And.intro hbx hblt))
  have hbB : ∀ b, b < B → b < w.heap.size ∧ b ≠ g := fun b hb => ⟨by have := hr.lt; omega, by omega⟩
  have HBB := Lib.hid hbB
  clear hl l3 hI hr hrm hbox hblt hbx hbB
  go_enter Try.func132, Try.ntmps132
  go_wp2_with fail
  go_loopw [10] (fun i wr => ∃ k : Nat, k ≤ l.length ∧ i = .int .i64 k ∧ Hid ((∀ j, j < k → takeOk l rm f j) ∧ RoomAt wr g l.length q (fun j => if j < k then rm j - nth l j else rm j) ∧ Kept g g g w wr)) (fun i _ => l.length - (intOf i).toNat)
  case atStart => exact ⟨0, Nat.zero_le _, rfl, fun j hj => (by omega), HR.out.same (fun j _ => by simp), Kept.refl _ _ _ _⟩
  case round =>
    obtain ⟨k, hk, rfl, HQ⟩ := hrel
    have b1 : wr.cell? ⟨bx, 0, none⟩ = some (.slice (some ⟨g, 0, none⟩) l.length q) := (HQ.out.2.2.cell (p := ⟨bx, 0, none⟩) HBX.out.2.2 HBX.out.2.1 HBX.out.2.1 HBX.out.2.1).trans HBX.out.1
    by_cases hlt : k < l.length
    · have hki : (k : Int) < l.length := by omega
      have hk6 : k < 6 := by omega
      obtain ⟨b, off, rfl, hbl, hcell⟩ := L3.out k hlt
      have hbb := HBB.out b hbl
      have m1 := (HQ.out.2.2.cell (p := ⟨b, off + k, none⟩) hbb.1 hbb.2 hbb.2 hbb.2).trans hcell
      have m2 := HQ.out.2.1.cell hlt
      have m3 := HQ.out.2.1.free k
      rw [if_neg (Nat.lt_irrefl k)] at m2
      have hx := HI.out _ (nth_mem hlt)
      have hr := HRM.out k hlt
      have hok : takeOk l rm f k ↔ (0 ≤ nth l k ∧ nth l k ≤ rm k ∧ (0 < nth l k → f.testBit k = true)) := Iff.rfl
      have HO := Lib.hid hok
      have hx1 := hx.1; have hx2 := hx.2
      clear hcell hbb hx hok
      by_cases t1 : nth l k < 0
      · have hno : ¬ takeOk l rm f k := fun h => by have := (HO.out.1 h).1; omega
        have HNO := Lib.hid hno
        clear hno
        go_wp2_with fail
        go_ret
        exact ⟨fun h => absurd (h k hlt) HNO.out, fun _ => rfl, HQ.out.2.2⟩
      by_cases t2 : rm k < nth l k
      · have hno : ¬ takeOk l rm f k := fun h => by have := (HO.out.1 h).2.1; omega
        have HNO := Lib.hid hno
        clear hno
        go_wp2_with fail
        go_ret
        exact ⟨fun h => absurd (h k hlt) HNO.out, fun _ => rfl, HQ.out.2.2⟩
      have hnew : takeOk l rm f k → (∀ j, j < k + 1 → takeOk l rm f j) ∧ RoomAt (wr.setCell ⟨g, k, none⟩ (.int .i64 (rm k - nth l k))) g l.length q (fun j => if j < k + 1 then rm j - nth l j else rm j) ∧ Kept g g g w (wr.setCell ⟨g, k, none⟩ (.int .i64 (rm k - nth l k))) := fun h => by
        refine ⟨fun j hj => ?_, (HQ.out.2.1.set (rm k - nth l k) hlt).same fun j hj => ?_, HQ.out.2.2.set _ _ (.inl rfl)⟩
        · by_cases e : j = k
          · rw [e]; exact h
          · exact HQ.out.1 j (by omega)
        · by_cases e : j = k
          · subst e; simp
          · rw [if_neg e]
            by_cases e2 : j < k
            · rw [if_pos e2, if_pos (by omega)]
            · rw [if_neg e2, if_neg (by omega)]
      have HN := Lib.hid hnew
      clear hnew
      by_cases t3 : 0 < nth l k
      · cases hb : f.testBit k
        · have hno : ¬ takeOk l rm f k := fun h => by have := (HO.out.1 h).2.2 t3; rw [hb] at this; cases this
          have HNO := Lib.hid hno
          have HBI := Lib.hid hb
          clear hno hb
          go_wp2_with (go_at_call 125; refine (has_as HBI.out hf hk6 k rfl _).mono ?_; rintro e w' ⟨rfl, rfl⟩)
          go_ret
          exact ⟨fun h => absurd (h k hlt) HNO.out, fun _ => rfl, HQ.out.2.2⟩
        · have HNN := Lib.hid (HN.out (HO.out.2 ⟨by omega, by omega, fun _ => hb⟩))
          have HBI := Lib.hid hb
          clear hb
          go_wp2_with (go_at_call 125; refine (has_as HBI.out hf hk6 k rfl _).mono ?_; rintro e w' ⟨rfl, rfl⟩)
          go_roundw
          case rel => exact ⟨k + 1, by omega, by go_num, HNN.out⟩
          case measure => simp [intOf]; omega
      · have HNN := Lib.hid (HN.out (HO.out.2 ⟨by omega, by omega, fun h => absurd h t3⟩))
        go_wp2_with fail
        go_roundw
        case rel => exact ⟨k + 1, by omega, by go_num, HNN.out⟩
        case measure => simp [intOf]; omega
    · obtain rfl : k = l.length := by omega
      go_wp2_with fail
      go_ret
      refine ⟨fun _ => ⟨rfl, HQ.out.2.1.same fun j hj => by rw [if_pos hj]⟩, fun ⟨j, hj, hno⟩ => absurd (HQ.out.1 j hj) hno, HQ.out.2.2⟩
end Go.Proofs.Ytnhifinfjfpoiaa

namespace Go.Proofs.Ytnhifinfjfpoiaa
open Go.RowKit
set_option linter.unusedVariables false

def rmTo (c : Col) (T : List (List Int)) (k j : Nat) : Int := nth c.rooms j - sumN (fun i => nth (nthR T i) j) k
def rowOk (c : Col) (T : List (List Int)) (k : Nat) : Prop := (∀ j, j < c.rooms.length → takeOk (nthR T k) (rmTo c T k) (frm (needsC c) k) j) ∧ sumN (nth (nthR T k)) c.rooms.length = (nthP (needsC c) k).1
def fitsErr (c : Col) (T : List (List Int)) (L : List Int) : Int :=
  if checkC c = 0 then (if T.length = c.rooms.length * c.nights.length ∧ L.length = c.rooms.length ∧ allB (fun i => (nthR T i).length == c.rooms.length) T.length = true then 0 else 3) else checkC c
theorem fitsErr_cases (c : Col) (T : List (List Int)) (L : List Int) :
    (¬ checkC c = 0 ∧ fitsErr c T L = checkC c) ∨ (checkC c = 0 ∧ ¬ T.length = c.rooms.length * c.nights.length ∧ fitsErr c T L = 3) ∨ (checkC c = 0 ∧ T.length = c.rooms.length * c.nights.length ∧ ¬ L.length = c.rooms.length ∧ fitsErr c T L = 3) ∨
    (checkC c = 0 ∧ T.length = c.rooms.length * c.nights.length ∧ L.length = c.rooms.length ∧ allB (fun i => (nthR T i).length == c.rooms.length) T.length = false ∧ fitsErr c T L = 3) ∨
    (checkC c = 0 ∧ T.length = c.rooms.length * c.nights.length ∧ L.length = c.rooms.length ∧ allB (fun i => (nthR T i).length == c.rooms.length) T.length = true ∧ fitsErr c T L = 0) := by
  unfold fitsErr
  by_cases q : checkC c = 0
  · by_cases q1 : T.length = c.rooms.length * c.nights.length
    · by_cases q2 : L.length = c.rooms.length
      · cases q3 : allB (fun i => (nthR T i).length == c.rooms.length) T.length
        · exact .inr (.inr (.inr (.inl ⟨q, q1, q2, rfl, by rw [if_pos q, if_neg (fun h => by cases h.2.2)]⟩)))
        · exact .inr (.inr (.inr (.inr ⟨q, q1, q2, rfl, by rw [if_pos q, if_pos ⟨q1, q2, rfl⟩]⟩)))
      · exact .inr (.inr (.inl ⟨q, q1, q2, by rw [if_pos q, if_neg (fun h => q2 h.2.1)]⟩))
    · exact .inr (.inl ⟨q, q1, by rw [if_pos q, if_neg (fun h => q1 h.1)]⟩)
  · exact .inl ⟨q, by rw [if_neg q]⟩
theorem needsC_mul (c : Col) : (needsC c).length = c.rooms.length * c.nights.length := by unfold needsC; rw [needsUp_len, Nat.mul_comm]

theorem sumN_mono {f : Nat → Int} {k : Nat} : ∀ {n : Nat}, k ≤ n → (∀ i, i < n → 0 ≤ f i) → sumN f k ≤ sumN f n
  | 0, h, _ => by have : k = 0 := by omega
                  subst this; exact Int.le_refl _
  | n + 1, h, hf => by
    by_cases e : k = n + 1
    · subst e; exact Int.le_refl _
    · have := sumN_mono (k := k) (n := n) (by omega) (fun i hi => hf i (by omega))
      have := hf n (by omega)
      rw [sumN_succ]; omega
theorem rmTo_bounds {c : Col} (ok : OkCol c) {T : List (List Int)} {k : Nat} (h : ∀ i, i < k → rowOk c T i) : ∀ j, j < c.rooms.length → 0 ≤ rmTo c T k j ∧ rmTo c T k j ≤ 60 := by
  intro j hj
  have hr := ok.rooms6 j (by have := ok.houses.2; omega)
  induction k with
  | zero => unfold rmTo sumN; omega
  | succ k ih =>
    have h1 := ih (fun i hi => h i (by omega))
    have h2 := (h k (by omega)).1 j hj
    unfold takeOk at h2
    unfold rmTo at *
    rw [sumN_succ]
    omega
theorem fits_yes {c : Col} {T : List (List Int)} {L : List Int} (h : ∀ i, i < (needsC c).length → rowOk c T i) (hl : ∀ j, j < c.rooms.length → takeOk L (rmTo c T (needsC c).length) (unionN (leftC c)) j) : FitsP c T L := by
  refine ⟨fun k hk j hj => ?_, fun k hk => (h k hk).2, fun j hj => ?_, fun j hj => ?_⟩
  · have := (h k hk).1 j hj; exact ⟨this.1, this.2.2⟩
  · have := hl j hj; exact ⟨this.1, this.2.2⟩
  · have := (hl j hj).2.1
    unfold rmTo at this; omega
theorem fits_no_row {c : Col} {T : List (List Int)} {L : List Int} {k : Nat} (hk : k < (needsC c).length) (h : ∃ j, j < c.rooms.length ∧ ¬ takeOk (nthR T k) (rmTo c T k) (frm (needsC c) k) j) : ¬ FitsP c T L := by
  intro f
  obtain ⟨j, hj, hno⟩ := h
  refine hno ⟨(f.cell k hk j hj).1, ?_, (f.cell k hk j hj).2⟩
  have h1 := f.col j hj
  have h2 := (f.left j hj).1
  have h3 := sumN_mono (f := fun i => nth (nthR T i) j) (k := k + 1) (n := (needsC c).length) (by omega) (fun i hi => (f.cell i hi j hj).1)
  rw [sumN_succ] at h3
  unfold rmTo; omega
theorem fits_no_left {c : Col} {T : List (List Int)} {L : List Int} (h : ∃ j, j < c.rooms.length ∧ ¬ takeOk L (rmTo c T (needsC c).length) (unionN (leftC c)) j) : ¬ FitsP c T L := by
  intro f
  obtain ⟨j, hj, hno⟩ := h
  refine hno ⟨(f.left j hj).1, ?_, (f.left j hj).2⟩
  have h1 := f.col j hj
  unfold rmTo; omega
end Go.Proofs.Ytnhifinfjfpoiaa

namespace Go.Proofs.Ytnhifinfjfpoiaa
open Go.RowKit
set_option linter.unusedVariables false

/-- Houses, traps and runs as they are made. -/
structure MadeIn (rooms traps : List Int) (rs : List (Int × Int)) : Prop where
  many : 1 ≤ rooms.length ∧ rooms.length ≤ 6
  trapN : traps.length = rooms.length
  roomB : ∀ h, h < rooms.length → 0 ≤ nth rooms h ∧ nth rooms h ≤ 8
  trapB : ∀ h, h < rooms.length → 0 ≤ nth traps h ∧ nth traps h ≤ 3
  runs : RunsIn rooms.length rs
  few : rs.length ≤ 12
  once : ∀ i j, i < rs.length → j < i → joinsB (nthP rs j) (nthP rs i).1 (nthP rs i).2 = false
/-- The nights of a colony, and what was caught, by where it came from. -/
structure MadeNights (rooms traps : List Int) (rs : List (Int × Int)) (k : Nat) (N T : List (List Int)) (M : Nat → Nat → Int) : Prop where
  lenN : N.length = k
  rowN : ∀ i, i < k → (nthR N i).length = rooms.length
  lenT : T.length = k * rooms.length
  rowT : ∀ i, i < k * rooms.length → (nthR T i).length = rooms.length
  night : ∀ i j, i < k → j < rooms.length → 0 ≤ nth (nthR N i) j ∧ nth (nthR N i) j ≤ nth traps j ∧ sumN (nth (nthR T (i * rooms.length + j))) rooms.length = nth (nthR N i) j
  cell : ∀ i j f, i < k → j < rooms.length → f < rooms.length → 0 ≤ nth (nthR T (i * rooms.length + j)) f ∧ (0 < nth (nthR T (i * rooms.length + j)) f → comeB ⟨rooms, traps, rs, N⟩ f i j = true)
  pos : ∀ h f, h < rooms.length → f < rooms.length → 0 ≤ M h f
  sum : ∀ f, f < rooms.length → sumN (fun h => M h f) rooms.length + sumN (fun i => nth (nthR T i) f) (k * rooms.length) ≤ nth rooms f
/-- Where rats are before the next night, or behind the last one. -/
def Before (rooms traps : List Int) (rs : List (Int × Int)) (k : Nat) (N : List (List Int)) (M : Nat → Nat → Int) : Prop :=
  ∀ h f, h < rooms.length → f < rooms.length → 0 < M h f → comeB ⟨rooms, traps, rs, N⟩ f k h = true
def Behind (rooms traps : List Int) (rs : List (Int × Int)) (k : Nat) (N : List (List Int)) (M : Nat → Nat → Int) : Prop :=
  ∀ h f, h < rooms.length → f < rooms.length → 0 < M h f → comeB ⟨rooms, traps, rs, N⟩ f k h = true ∧ fullB ⟨rooms, traps, rs, N⟩ h k = true
theorem joined_goes {c : Col} {a b : Nat} (h : a = b ∨ Joined c.runs a b) : goesB c a b = true := by
  unfold goesB goesI
  rw [Bool.or_eq_true]
  rcases h with h | ⟨i, hi, h⟩
  · right; simp [h]
  · left
    unfold anyB
    rw [List.any_eq_true]
    refine ⟨i, List.mem_range.2 hi, ?_⟩
    rcases h with h | h
    · rw [h]; simp [joinsB]
    · rw [h]; simp [joinsB]
/-- The rats ran. -/
theorem Behind.run {rooms traps : List Int} {rs : List (Int × Int)} {k : Nat} {N : List (List Int)} {M X : Nat → Nat → Int} (h : Behind rooms traps rs k N M) (r : RunOk rooms.length rs M X) : Before rooms traps rs (k + 1) N X := by
  intro a f ha hf hp
  obtain ⟨o, ho, hj, hM⟩ := r.from_ a f ha hf hp
  obtain ⟨h1, h2⟩ := h o f ho hf hM
  unfold comeB
  unfold anyB
  rw [List.any_eq_true]
  refine ⟨o, List.mem_range.2 ho, ?_⟩
  rw [h1, h2, joined_goes (c := ⟨rooms, traps, rs, N⟩) hj]
  rfl
theorem nthR_app {N : List (List Int)} {row : List Int} {i : Nat} (h : i < N.length) : nthR (N ++ [row]) i = nthR N i := by
  unfold nthR; rw [List.getD_eq_getElem?_getD, List.getD_eq_getElem?_getD, List.getElem?_append_left h]
theorem nthR_new (N : List (List Int)) (row : List Int) : nthR (N ++ [row]) N.length = row := by unfold nthR; simp
theorem come_pre {rooms traps : List Int} {rs : List (Int × Int)} {N : List (List Int)} {row : List Int} (f : Nat) : ∀ (k h : Nat), k ≤ N.length → comeB ⟨rooms, traps, rs, N ++ [row]⟩ f k h = comeB ⟨rooms, traps, rs, N⟩ f k h
  | 0, h, _ => rfl
  | k + 1, h, hk => by
    have e : ∀ a, comeB ⟨rooms, traps, rs, N ++ [row]⟩ f k a = comeB ⟨rooms, traps, rs, N⟩ f k a := fun a => come_pre f k a (by omega)
    have e2 : ∀ a, fullB ⟨rooms, traps, rs, N ++ [row]⟩ a k = fullB ⟨rooms, traps, rs, N⟩ a k := fun a => by
      unfold fullB
      show (nth (nthR (N ++ [row]) k) a == _) = (nth (nthR N k) a == _)
      rw [nthR_app (by omega)]
    have e3 : ∀ a b, goesB ⟨rooms, traps, rs, N ++ [row]⟩ a b = goesB ⟨rooms, traps, rs, N⟩ a b := fun a b => rfl
    unfold comeB
    simp only [e, e2, e3]
theorem sumN_append (f : Nat → Int) (m : Nat) : ∀ n, sumN f (m + n) = sumN f m + sumN (fun i => f (m + i)) n
  | 0 => by simp [sumN]
  | n + 1 => by rw [← Nat.add_assoc, sumN_succ, sumN_append f m n, sumN_succ]; omega
/-- What a house's traps catch of those that are there. -/
structure CatchOk (n : Nat) (tr : Int) (R0 R row : Nat → Int) : Prop where
  pos : ∀ f, f < n → 0 ≤ R f ∧ 0 ≤ row f ∧ R f + row f = R0 f
  few : 0 ≤ sumN row n ∧ sumN row n ≤ tr
  all : sumN row n = tr ∨ sumN R n = 0
/-- One night more: what was caught in each house is one row more of T, and the night's numbers one row of N. -/
theorem MadeNights.night_more {rooms traps : List Int} {rs : List (Int × Int)} {k : Nat} {N T : List (List Int)} {M X : Nat → Nat → Int} {rows : List (List Int)} {row : List Int} (I : MadeNights rooms traps rs k N T M) (B : Before rooms traps rs k N M)
    (hr : rows.length = rooms.length) (hrl : ∀ j, j < rooms.length → (nthR rows j).length = rooms.length) (hn : row.length = rooms.length) (hrow : ∀ j, j < rooms.length → nth row j = sumN (nth (nthR rows j)) rooms.length)
    (hc : ∀ j, j < rooms.length → CatchOk rooms.length (nth traps j) (M j) (X j) (nth (nthR rows j))) :
    MadeNights rooms traps rs (k + 1) (N ++ [row]) (T ++ rows) X ∧ Behind rooms traps rs k (N ++ [row]) X := by
  have hT : ∀ i, i < k * rooms.length → nthR (T ++ rows) i = nthR T i := fun i hi => by
    unfold nthR; rw [List.getD_eq_getElem?_getD, List.getD_eq_getElem?_getD, List.getElem?_append_left (by rw [I.lenT]; exact hi)]
  have hT2 : ∀ j, nthR (T ++ rows) (k * rooms.length + j) = nthR rows j := fun j => by
    unfold nthR; rw [List.getD_eq_getElem?_getD, List.getD_eq_getElem?_getD, List.getElem?_append_right (by rw [I.lenT]; omega), I.lenT, Nat.add_sub_cancel_left]
  have idx : ∀ {i j : Nat}, i < k → j < rooms.length → i * rooms.length + j < k * rooms.length := fun {i j} hi hj => by
    have := Nat.mul_le_mul_right rooms.length (show i + 1 ≤ k by omega)
    rw [Nat.succ_mul] at this; omega
  have hk1 : (k + 1) * rooms.length = k * rooms.length + rooms.length := Nat.succ_mul _ _
  have hN : ∀ i, i < k → nthR (N ++ [row]) i = nthR N i := fun i hi => nthR_app (by rw [I.lenN]; exact hi)
  have hNk : nthR (N ++ [row]) k = row := by have := nthR_new N row; rw [I.lenN] at this; exact this
  have cp : ∀ f i h, i ≤ k → comeB ⟨rooms, traps, rs, N ++ [row]⟩ f i h = comeB ⟨rooms, traps, rs, N⟩ f i h := fun f i h hi => come_pre f i h (by rw [I.lenN]; exact hi)
  have hX : ∀ h f, h < rooms.length → f < rooms.length → 0 ≤ X h f ∧ X h f ≤ M h f := fun h f hh hf => by
    have a := (hc h hh).pos f hf
    exact ⟨a.1, by omega⟩
  constructor
  · refine ⟨by simp [I.lenN], fun i hi => ?_, by simp [I.lenT, hr, hk1], fun i hi => ?_, fun i j hi hj => ?_, fun i j f hi hj hf => ?_, fun h f hh hf => (hX h f hh hf).1, fun f hf => ?_⟩
    · by_cases e : i = k
      · rw [e, hNk]; exact hn
      · rw [hN i (by omega)]; exact I.rowN i (by omega)
    · by_cases e : i < k * rooms.length
      · rw [hT i e]; exact I.rowT i e
      · obtain ⟨j, rfl⟩ : ∃ j, i = k * rooms.length + j := ⟨i - k * rooms.length, by omega⟩
        rw [hT2]; exact hrl j (by omega)
    · by_cases e : i = k
      · subst e
        rw [hNk, hT2]
        have a := (hc j hj).few
        rw [hrow j hj]
        exact ⟨a.1, a.2, rfl⟩
      · rw [hN i (by omega), hT _ (idx (by omega) hj)]
        exact I.night i j (by omega) hj
    · by_cases e : i = k
      · subst e
        rw [hT2]
        have a := (hc j hj).pos f hf
        refine ⟨a.2.1, fun hp => ?_⟩
        rw [cp f i j (Nat.le_refl _)]
        exact B j f hj hf (by omega)
      · rw [hT _ (idx (by omega) hj)]
        have a := I.cell i j f (by omega) hj hf
        refine ⟨a.1, fun hp => ?_⟩
        rw [cp f i j (by omega)]
        exact a.2 hp
    · have a := I.sum f hf
      have e1 : sumN (fun i => nth (nthR (T ++ rows) i) f) ((k + 1) * rooms.length) = sumN (fun i => nth (nthR T i) f) (k * rooms.length) + sumN (fun j => nth (nthR rows j) f) rooms.length := by
        rw [hk1, sumN_append]
        congr 1
        · exact sumN_congr fun i hi => by rw [hT i hi]
        · exact sumN_congr fun i hi => by rw [hT2 i]
      have e2 : sumN (fun h => X h f) rooms.length + sumN (fun j => nth (nthR rows j) f) rooms.length = sumN (fun h => M h f) rooms.length := by
        rw [← sumN_add]
        exact sumN_congr fun i hi => ((hc i hi).pos f hf).2.2
      rw [e1]; omega
  · intro h f hh hf hp
    have a := hX h f hh hf
    refine ⟨by rw [cp f k h (Nat.le_refl _)]; exact B h f hh hf (by omega), ?_⟩
    unfold fullB
    show (nth (nthR (N ++ [row]) k) h == nth traps h) = true
    rw [hNk, hrow h hh]
    rcases (hc h hh).all with e | e
    · simpa using e
    · have b := sumN_ge (f := X h) (n := rooms.length) (k := f) (fun i hi => (hX h i hh hi).1) hf
      omega
end Go.Proofs.Ytnhifinfjfpoiaa

namespace Go.Proofs.Ytnhifinfjfpoiaa
open Go.RowKit
set_option linter.unusedVariables false

theorem made_check {rooms traps : List Int} {rs : List (Int × Int)} {N : List (List Int)} (I : MadeIn rooms traps rs) (hN : N.length ≤ 6) (hrow : ∀ i, i < N.length → (nthR N i).length = rooms.length)
    (hn : ∀ i j, i < N.length → j < rooms.length → 0 ≤ nth (nthR N i) j ∧ nth (nthR N i) j ≤ nth traps j) : checkC ⟨rooms, traps, rs, N⟩ = 0 := by
  obtain ⟨m1, m2⟩ := I.many
  have e1 : badCount1 ⟨rooms, traps, rs, N⟩ = false := by
    have h1 : inB (rooms.length : Int) 1 6 = true := inB_of ⟨by omega, by omega⟩
    have h2 := I.trapN; have h3 := I.few
    unfold badCount1
    simp [h1, h2]; omega
  have e2 : badCount2 ⟨rooms, traps, rs, N⟩ = false := by
    unfold badCount2
    rw [allB_true (fun i hi => by unfold okRow; simpa using hrow i hi)]; rfl
  have e3 : badRooms ⟨rooms, traps, rs, N⟩ = false := by
    unfold badRooms
    rw [allB_true (fun i hi => by have a := I.roomB i hi; exact inB_of ⟨a.1, Int.le_trans a.2 (by omega)⟩)]; rfl
  have e4 : badTraps ⟨rooms, traps, rs, N⟩ = false := by
    unfold badTraps
    rw [allB_true (fun i hi => by have h : i < rooms.length := by have := I.trapN; exact this ▸ hi
                                  have a := I.trapB i h; exact inB_of ⟨a.1, Int.le_trans a.2 (by omega)⟩)]; rfl
  have e5 : badNights ⟨rooms, traps, rs, N⟩ = false := by
    unfold badNights
    rw [allB_true (fun i hi => allB_true (fun j hj => by
      have hj' : j < rooms.length := by have := hrow i hi; exact this ▸ hj
      have := hn i j hi hj'
      unfold okNight; exact inB_of ⟨this.1, this.2⟩))]; rfl
  have e6 : badRuns ⟨rooms, traps, rs, N⟩ = false := by
    unfold badRuns
    rw [allB_true (fun i hi => by
      have := I.runs i hi
      unfold okRun
      show (inB (nthP rs i).1 0 ((rooms.length : Int) - 1) && inB (nthP rs i).2 0 ((rooms.length : Int) - 1)) = true
      rw [inB_of ⟨by omega, by omega⟩, inB_of ⟨by omega, by omega⟩]; rfl)]; rfl
  have e7 : badTwice ⟨rooms, traps, rs, N⟩ = false := by
    unfold badTwice
    rw [allB_true (fun i hi => by
      have := I.runs i hi
      unfold okTwice
      show ((nthP rs i).1 != (nthP rs i).2 && allB (fun k => !joinsB (nthP rs k) (nthP rs i).1 (nthP rs i).2) i) = true
      rw [allB_true (fun j hj => by rw [I.once i j hi hj]; rfl)]
      simp; omega)]; rfl
  unfold checkC
  rw [e1, e2, e3, e4, e5, e6, e7]; rfl

/-- A colony that has a truth does not clash. -/
theorem fits_good {c : Col} (ok : OkCol c) {T : List (List Int)} {L : List Int} (F : FitsP c T L) : Good (frm (needsC c)) (needsC c).length (nth c.rooms) (fun h => nth c.rooms h - sumN (fun o => if h < c.rooms.length then nth (nthR T o) h else 0) (needsC c).length) (fun o h => if h < c.rooms.length then nth (nthR T o) h else 0) := by
  refine ⟨fun h hh => ?_, fun o h ho hh => ?_, fun o h ho hh hp => ?_, fun h hh => by omega⟩
  · by_cases e : h < c.rooms.length
    · have e1 : sumN (fun o => if h < c.rooms.length then nth (nthR T o) h else 0) (needsC c).length = sumN (fun o => nth (nthR T o) h) (needsC c).length := sumN_congr fun i hi => by rw [if_pos e]
      have a := F.col h e
      have b := (F.left h e).1
      rw [e1]; omega
    · have e1 : sumN (fun o => if h < c.rooms.length then nth (nthR T o) h else 0) (needsC c).length = 0 := by
        simp only [if_neg e]; exact sumN_zero _
      rw [e1]; have := (ok.rooms6 h hh).1; omega
  · by_cases e : h < c.rooms.length
    · simp only [if_pos e]; exact (F.cell o ho h e).1
    · simp only [if_neg e]; exact Int.le_refl _
  · by_cases e : h < c.rooms.length
    · simp only [if_pos e] at hp; exact (F.cell o ho h e).2 hp
    · simp only [if_neg e] at hp; exact absurd hp (by omega)
theorem fits_per {c : Col} (ok : OkCol c) {T : List (List Int)} {L : List Int} (F : FitsP c T L) {o : Nat} (ho : o < (needsC c).length) : perNeed (fun o h => if h < c.rooms.length then nth (nthR T o) h else 0) o = rats (needsC c) o := by
  have h1 := F.row o ho
  unfold perNeed
  rw [sumN_cut ok.houses.2 (fun i h1 h2 => by show (if i < c.rooms.length then nth (nthR T o) i else 0) = 0; rw [if_neg (by omega)])]
  rw [show rats (needsC c) o = (nthP (needsC c) o).1 from rfl, ← h1]
  exact sumN_congr fun i hi => by show (if i < c.rooms.length then nth (nthR T o) i else 0) = _; rw [if_pos hi]
theorem fits_err {c : Col} (hk : checkC c = 0) {T : List (List Int)} {L : List Int} (F : FitsP c T L) : fitErr c = 0 := by
  have ok := okCol_of hk
  rw [fit_err ok hk]
  obtain ⟨m, _, hm⟩ := cut_mem (needsC c) (nth c.rooms)
  have h1 := within_le (fits_good ok F) m.testBit
  have h2 := all_split (needsC c) (rats (needsC c)) m.testBit
  have h3 : withinOf (frm (needsC c)) (needsC c).length (fun o h => if h < c.rooms.length then nth (nthR T o) h else 0) m.testBit = sumN (fun o => if subB (frm (needsC c) o) m.testBit = true then rats (needsC c) o else 0) (needsC c).length := by
    unfold withinOf
    exact sumN_congr fun i hi => by rw [fits_per ok F hi]
  have h4 : totC c = sumN (rats (needsC c)) (needsC c).length := rfl
  rw [if_neg]
  rw [hm, h4, h2]
  unfold elsewhere
  omega
theorem needs_at (c : Col) {i j : Nat} : ∀ {n : Nat}, i < n → j < c.rooms.length → nthP (needsUp c n) (i * c.rooms.length + j) = (nth (nthR c.nights i) j, (org c i j : Int))
  | 0, h, _ => by omega
  | n + 1, h, hj => by
    rw [needsUp_succ]
    by_cases e : i = n
    · subst e
      unfold nthP
      rw [List.getD_eq_getElem?_getD, List.getElem?_append_right (by rw [needsUp_len]; omega), needsUp_len, Nat.add_sub_cancel_left]
      simp [needRow, hj]
    · have h1 := needs_at c (i := i) (n := n) (by omega) hj
      have h2 : i * c.rooms.length + j < n * c.rooms.length := by
        have := Nat.mul_le_mul_right c.rooms.length (show i + 1 ≤ n by omega)
        rw [Nat.succ_mul] at this; omega
      unfold nthP at h1 ⊢
      rw [List.getD_eq_getElem?_getD, List.getElem?_append_left (show i * c.rooms.length + j < (needsUp c n).length by rw [needsUp_len]; exact h2), ← List.getD_eq_getElem?_getD]
      exact h1
theorem sumN_ex {f : Nat → Int} {n : Nat} (h : 0 < sumN f n) : ∃ i, i < n ∧ 0 < f i := by
  refine Classical.byContradiction fun q => ?_
  have := sumN_le (n := n) (f := f) (g := fun _ => 0) fun i hi => by
    refine Classical.byContradiction fun e => q ⟨i, hi, by omega⟩
  rw [sumN_zero] at this; omega
/-- Where rats are when the colony is made. -/
def Ends (rooms traps : List Int) (rs : List (Int × Int)) (k : Nat) (N : List (List Int)) (M : Nat → Nat → Int) : Prop :=
  (k = 0 ∧ Before rooms traps rs 0 N M) ∨ (0 < k ∧ Behind rooms traps rs (k - 1) N M)
theorem Ends.stay {rooms traps : List Int} {rs : List (Int × Int)} {k : Nat} {N T : List (List Int)} {M : Nat → Nat → Int} (Q : MadeNights rooms traps rs k N T M) (B : Ends rooms traps rs k N M) {h f : Nat} (hh : h < rooms.length) (hf : f < rooms.length) (hp : 0 < M h f) : stayB ⟨rooms, traps, rs, N⟩ f h = true := by
  have hN := Q.lenN
  unfold stayB
  rcases B with ⟨h0, B⟩ | ⟨h0, B⟩
  · rw [if_pos (show N.length = 0 by omega)]; exact B h f hh hf hp
  · rw [if_neg (show ¬ N.length = 0 by omega)]
    show (comeB ⟨rooms, traps, rs, N⟩ f (N.length - 1) h && fullB ⟨rooms, traps, rs, N⟩ h (N.length - 1)) = true
    rw [hN]
    obtain ⟨a, b⟩ := B h f hh hf hp
    rw [a, b]; rfl
theorem made_fits {rooms traps : List Int} {rs : List (Int × Int)} {k : Nat} {N T : List (List Int)} {M : Nat → Nat → Int} {L : List Int} (hk : checkC ⟨rooms, traps, rs, N⟩ = 0) (Q : MadeNights rooms traps rs k N T M) (B : Ends rooms traps rs k N M)
    (hL : ∀ f, f < rooms.length → nth L f = sumN (fun h => M h f) rooms.length) : FitsP ⟨rooms, traps, rs, N⟩ T L := by
  have ok := okCol_of hk
  have hlen : (needsC ⟨rooms, traps, rs, N⟩).length = k * rooms.length := by unfold needsC; rw [needsUp_len]; show N.length * _ = _; rw [Q.lenN]
  have h6 : rooms.length ≤ 6 := ok.houses.2
  have split : ∀ o, o < k * rooms.length → ∃ i j, i < k ∧ j < rooms.length ∧ o = i * rooms.length + j := fun o ho => by
    have hp : 0 < rooms.length := ok.houses.1
    refine ⟨o / rooms.length, o % rooms.length, (Nat.div_lt_iff_lt_mul hp).2 ho, Nat.mod_lt _ hp, ?_⟩
    rw [Nat.mul_comm]; exact (Nat.div_add_mod o rooms.length).symm
  have at_ : ∀ i j, i < k → j < rooms.length → nthP (needsC ⟨rooms, traps, rs, N⟩) (i * rooms.length + j) = (nth (nthR N i) j, (org ⟨rooms, traps, rs, N⟩ i j : Int)) := fun i j hi hj =>
    needs_at ⟨rooms, traps, rs, N⟩ (n := N.length) (by rw [Q.lenN]; exact hi) hj
  refine ⟨fun o ho h hh => ?_, fun o ho => ?_, fun f hf => ?_, fun f hf => ?_⟩
  · rw [hlen] at ho
    obtain ⟨i, j, hi, hj, rfl⟩ := split o ho
    have a := Q.cell i j h hi hj hh
    refine ⟨a.1, fun hp => ?_⟩
    unfold frm
    rw [at_ i j hi hj, Int.toNat_natCast, org_come ok i j h hj hh (by show i ≤ N.length; rw [Q.lenN]; omega)]
    exact a.2 hp
  · rw [hlen] at ho
    obtain ⟨i, j, hi, hj, rfl⟩ := split o ho
    rw [at_ i j hi hj]
    exact (Q.night i j hi hj).2.2
  · have hf' : f < rooms.length := hf
    rw [hL f hf']
    refine ⟨sumN_nonneg fun h hh => Q.pos h f hh hf', fun hp => ?_⟩
    obtain ⟨h, hh, hM⟩ := sumN_ex hp
    unfold unionN
    rw [union_bit]
    refine ⟨h, by omega, ?_⟩
    rw [left_bit ok hh hf]
    exact B.stay Q hh hf' hM
  · rw [hlen, hL f hf]
    have := Q.sum f hf
    show _ ≤ nth rooms f
    omega
end Go.Proofs.Ytnhifinfjfpoiaa

namespace Go.Proofs.Ytnhifinfjfpoiaa
open Go.RowKit
set_option linter.unusedVariables false

/-- Runs among the first h houses, at most m of them, none twice. -/
structure RunsTo (h m : Nat) (rs : List (Int × Int)) : Prop where
  few : rs.length ≤ m
  runs : RunsIn h rs
  once : ∀ i j, i < rs.length → j < i → joinsB (nthP rs j) (nthP rs i).1 (nthP rs i).2 = false
theorem RunsTo.nil (h m : Nat) : RunsTo h m [] := ⟨Nat.zero_le _, fun i hi => (by simp at hi), fun i j hi => (by simp at hi)⟩
theorem RunsTo.mono {h m h' m' : Nat} {rs : List (Int × Int)} (I : RunsTo h m rs) (hh : h ≤ h') (hm : m ≤ m') : RunsTo h' m' rs :=
  ⟨Nat.le_trans I.few hm, fun i hi => by have := I.runs i hi; omega, I.once⟩
theorem nthP_ahead {rs : List (Int × Int)} {r : Int × Int} {i : Nat} (h : i < rs.length) : nthP (rs ++ [r]) i = nthP rs i := by
  unfold nthP; rw [List.getD_eq_getElem?_getD, List.getD_eq_getElem?_getD, List.getElem?_append_left h]
theorem nthP_new (rs : List (Int × Int)) (r : Int × Int) : nthP (rs ++ [r]) rs.length = r := by unfold nthP; simp
theorem RunsTo.add {h m : Nat} {rs : List (Int × Int)} (I : RunsTo h m rs) {a b : Int} (ha : 0 ≤ a ∧ a < h) (hb : 0 ≤ b ∧ b < h) (hab : a ≠ b) (hnew : ∀ j, j < rs.length → joinsB (nthP rs j) a b = false) : RunsTo h (m + 1) (rs ++ [(a, b)]) := by
  refine ⟨by have := I.few; simp; omega, fun i hi => ?_, fun i j hi hj => ?_⟩
  · by_cases e : i < rs.length
    · rw [nthP_ahead e]; exact I.runs i e
    · obtain rfl : i = rs.length := by simp at hi; omega
      rw [nthP_new]; exact ⟨ha.1, ha.2, hb.1, hb.2, hab⟩
  · by_cases e : i < rs.length
    · rw [nthP_ahead e, nthP_ahead (by omega)]; exact I.once i j e hj
    · obtain rfl : i = rs.length := by simp at hi; omega
      rw [nthP_new, nthP_ahead hj]; exact hnew j hj
theorem joins_fresh {h : Nat} {rs : List (Int × Int)} (I : RunsIn h rs) {j : Nat} (hj : j < rs.length) (x : Int) : joinsB (nthP rs j) h x = false ∧ joinsB (nthP rs j) x h = false := by
  have := I j hj
  unfold joinsB
  constructor <;> simp <;> omega
/-- The first run of house h. -/
theorem RunsTo.first {h m : Nat} {rs : List (Int × Int)} (I : RunsTo h m rs) {x : Int} (hx : 0 ≤ x ∧ x < h) : RunsTo (h + 1) (m + 1) (rs ++ [((h : Int), x)]) :=
  (I.mono (Nat.le_succ h) (Nat.le_refl m)).add (by omega) (by omega) (by omega) (fun j hj => (joins_fresh I.runs hj x).1)
/-- Is a run among those, turned round? -/
def turnB (rs : List (Int × Int)) (a b : Int) : Bool := rs.any fun o => o.1 == b && o.2 == a
/-- The second run of house h, where the first was laid. -/
theorem RunsTo.second {h m : Nat} {rs : List (Int × Int)} (I : RunsTo h m rs) {x y : Int} (hx : 0 ≤ x ∧ x < h) (hy : 0 ≤ y ∧ y < h) (hn : turnB (rs ++ [((h : Int), x)]) y h = false) : RunsTo (h + 1) (m + 2) ((rs ++ [((h : Int), x)]) ++ [(y, (h : Int))]) := by
  refine (I.first hx).add (by omega) (by omega) (by omega) (fun j hj => ?_)
  by_cases e : j < rs.length
  · rw [nthP_ahead e]; exact (joins_fresh I.runs e y).2
  · obtain rfl : j = rs.length := by simp at hj; omega
    rw [nthP_new]
    unfold turnB at hn
    simp at hn
    unfold joinsB
    simp
    omega
/-- The second run of house h, where no first was laid. -/
theorem RunsTo.only {h m : Nat} {rs : List (Int × Int)} (I : RunsTo h m rs) {y : Int} (hy : 0 ≤ y ∧ y < h) : RunsTo (h + 1) (m + 1) (rs ++ [(y, (h : Int))]) :=
  (I.mono (Nat.le_succ h) (Nat.le_refl m)).add (by omega) (by omega) (by omega) (fun j hj => (joins_fresh I.runs hj y).2)
/-- Before the first night: rats are where they sleep. -/
theorem nights_start {rooms traps : List Int} {rs : List (Int × Int)} {M : Nat → Nat → Int} (hM : ∀ h f, h < rooms.length → f < rooms.length → (h ≠ f → M h f = 0) ∧ 0 ≤ M h f ∧ M h f ≤ nth rooms h) :
    MadeNights rooms traps rs 0 [] [] M ∧ Before rooms traps rs 0 [] M := by
  refine ⟨⟨rfl, fun i hi => by omega, by simp, fun i hi => by omega, fun i j hi => by omega, fun i j f hi => by omega, fun h f hh hf => (hM h f hh hf).2.1, fun f hf => ?_⟩, fun h f hh hf hp => ?_⟩
  · rw [Nat.zero_mul]
    have e : sumN (fun h => M h f) rooms.length = M f f := by
      have e1 : sumN (fun h => M h f) rooms.length = sumN (fun j => if j = f then M f f else (fun _ => 0) j) rooms.length := sumN_congr fun i hi => by
        by_cases q : i = f
        · subst q; simp
        · rw [if_neg q]; exact (hM i f hi hf).1 q
      rw [e1, sumN_set, if_pos hf, sumN_zero]; omega
    rw [e]
    have := (hM f f hf hf).2.2
    show M f f + 0 ≤ _
    omega
  · by_cases q : h = f
    · subst q; unfold comeB; simp
    · have := (hM h f hh hf).1 q; omega
end Go.Proofs.Ytnhifinfjfpoiaa

namespace Go.Proofs.Ytnhifinfjfpoiaa
open Go.RowKit
set_option linter.unusedVariables false

theorem sumT_eq (f : Nat → Int) : ∀ n, sumT f n = sumN f n
  | 0 => rfl
  | n + 1 => by rw [sumT, sumN_succ, sumT_eq f n]
theorem nth_snoc {l : List Int} {x : Int} {i : Nat} (h : i < l.length) : nth (l ++ [x]) i = nth l i := by
  unfold nth; rw [List.getD_eq_getElem?_getD, List.getD_eq_getElem?_getD, List.getElem?_append_left h]
theorem nth_last (l : List Int) (x : Int) : nth (l ++ [x]) l.length = x := by unfold nth; simp
theorem nth_ofRange (f : Nat → Int) {n q : Nat} (hq : q < n) : nth ((List.range n).map f) q = f q := by simp [nth, hq]
/-- So many of a house's traps have been tried. -/
structure CatchUp (n : Nat) (i : Nat) (R0 R f : Nat → Int) : Prop where
  pos : ∀ e, e < n → 0 ≤ R e ∧ 0 ≤ f e ∧ R e + f e = R0 e
  few : 0 ≤ sumN f n ∧ sumN f n ≤ i
  all : sumN f n = i ∨ sumN R n = 0
theorem CatchUp.start {n : Nat} {R0 : Nat → Int} (h : ∀ e, e < n → 0 ≤ R0 e) : CatchUp n 0 R0 R0 (fun _ => 0) :=
  ⟨fun e he => ⟨h e he, Int.le_refl _, by omega⟩, by rw [sumN_zero]; omega, .inl (by rw [sumN_zero]; rfl)⟩
theorem CatchUp.skip {n i : Nat} {R0 R f : Nat → Int} (I : CatchUp n i R0 R f) (h : sumN R n = 0) : CatchUp n (i + 1) R0 R f :=
  ⟨I.pos, by have := I.few; omega, .inr h⟩
theorem CatchUp.more {n i : Nat} {R0 R f : Nat → Int} (I : CatchUp n i R0 R f) {q : Nat} (hq : q < n) (hR : 0 < R q) : CatchUp n (i + 1) R0 (fun e => if e = q then R q - 1 else R e) (fun e => if e = q then f q + 1 else f e) := by
  have hs : 0 < sumN R n := by
    have := sumN_ge (f := R) (n := n) (k := q) (fun i hi => (I.pos i hi).1) hq
    omega
  have e1 := sumN_set f q (f q + 1) n
  rw [if_pos hq] at e1
  have hi : sumN f n = i := by
    rcases I.all with h | h
    · exact h
    · omega
  refine ⟨fun e he => ?_, by have := I.few; omega, .inl (by omega)⟩
  by_cases c : e = q
  · subst c
    have := I.pos e he
    simp only [if_pos]
    omega
  · simp only [if_neg c]; exact I.pos e he
theorem CatchUp.done {n i : Nat} {R0 R f : Nat → Int} (I : CatchUp n i R0 R f) : CatchOk n i R0 R f := ⟨I.pos, I.few, I.all⟩
theorem CatchOk.congr {n : Nat} {tr : Int} {R0 R f f' : Nat → Int} (I : CatchOk n tr R0 R f) (h : ∀ e, e < n → f e = f' e) : CatchOk n tr R0 R f' := by
  have e := sumN_congr h
  exact ⟨fun e he => by rw [← h e he]; exact I.pos e he, by rw [← e]; exact I.few, by rw [← e]; exact I.all⟩
def setRow (X : Nat → Nat → Int) (j : Nat) (R : Nat → Int) : Nat → Nat → Int := fun a => if a = j then R else X a
theorem setRow_at (X : Nat → Nat → Int) (j : Nat) (R : Nat → Int) : setRow X j R j = R := by simp [setRow]
theorem setRow_self (X : Nat → Nat → Int) (j : Nat) : setRow X j (X j) = X := by
  funext a b
  by_cases e : a = j
  · subst e; rw [setRow_at]
  · simp [setRow, e]
theorem setRow_set (X : Nat → Nat → Int) (j : Nat) (R : Nat → Int) (q : Nat) (x : Int) : setM (setRow X j R) j q x = setRow X j (fun e => if e = q then x else R e) := by
  funext a b
  by_cases e : a = j
  · by_cases c : b = q <;> simp [setM, setRow, e, c]
  · simp [setM, setRow, e]
/-- So many houses' traps have been looked at. -/
structure HouseIs (n : Nat) (traps : List Int) (M X : Nat → Nat → Int) (j : Nat) (rows : List (List Int)) (row : List Int) : Prop where
  lenRows : rows.length = j
  lenRow : row.length = j
  rowLen : ∀ h, h < j → (nthR rows h).length = n
  sums : ∀ h, h < j → nth row h = sumN (nth (nthR rows h)) n
  caught : ∀ h, h < j → CatchOk n (nth traps h) (M h) (X h) (nth (nthR rows h))
  rest : ∀ h, j ≤ h → ∀ f, X h f = M h f
theorem HouseIs.start (n : Nat) (traps : List Int) (M : Nat → Nat → Int) : HouseIs n traps M M 0 [] [] :=
  ⟨rfl, rfl, fun h hh => by omega, fun h hh => by omega, fun h hh => by omega, fun _ _ _ => rfl⟩
theorem HouseIs.more {n : Nat} {traps : List Int} {M X : Nat → Nat → Int} {j : Nat} {rows : List (List Int)} {row : List Int} (I : HouseIs n traps M X j rows row) {R f : Nat → Int} (hc : CatchOk n (nth traps j) (M j) R f) :
    HouseIs n traps M (setRow X j R) (j + 1) (rows ++ [(List.range n).map f]) (row ++ [sumN f n]) := by
  have l1 := I.lenRows
  have l2 := I.lenRow
  have eR : ∀ h, h < j → nthR (rows ++ [(List.range n).map f]) h = nthR rows h := fun h hh => nthR_app (by omega)
  have eJ : nthR (rows ++ [(List.range n).map f]) j = (List.range n).map f := by have := nthR_new rows ((List.range n).map f); rw [l1] at this; exact this
  have eX : ∀ h, h ≠ j → setRow X j R h = X h := fun h hh => by simp [setRow, hh]
  refine ⟨by simp [l1], by simp [l2], fun h hh => ?_, fun h hh => ?_, fun h hh => ?_, fun h hh f => ?_⟩
  · by_cases e : h = j
    · rw [e, eJ]; simp
    · rw [eR h (by omega)]; exact I.rowLen h (by omega)
  · by_cases e : h = j
    · subst e
      have e1 : nth (row ++ [sumN f n]) h = sumN f n := by rw [← l2]; exact nth_last _ _
      rw [e1, eJ]
      exact sumN_congr fun i hi => (nth_ofRange f hi).symm
    · rw [nth_snoc (by omega), eR h (by omega)]; exact I.sums h (by omega)
  · by_cases e : h = j
    · subst e
      rw [eJ, setRow_at]
      exact hc.congr fun e he => (nth_ofRange f he).symm
    · rw [eR h (by omega), eX h e]; exact I.caught h (by omega)
  · rw [eX h (by omega)]; exact I.rest h (by omega) f
theorem HouseIs.night {n : Nat} {rooms traps : List Int} {rs : List (Int × Int)} {M X : Nat → Nat → Int} {rows : List (List Int)} {row : List Int} {k : Nat} {N T : List (List Int)} (I : HouseIs n traps M X n rows row) (hn : rooms.length = n) (Q : MadeNights rooms traps rs k N T M) (B : Before rooms traps rs k N M) :
    MadeNights rooms traps rs (k + 1) (N ++ [row]) (T ++ rows) X ∧ Behind rooms traps rs k (N ++ [row]) X := by
  subst hn
  exact Q.night_more B I.lenRows (fun j hj => I.rowLen j hj) I.lenRow (fun j hj => I.sums j hj) (fun j hj => I.caught j hj)
theorem MadeNights.ran {rooms traps : List Int} {rs : List (Int × Int)} {k : Nat} {N T : List (List Int)} {M X : Nat → Nat → Int} (Q : MadeNights rooms traps rs k N T M) (r : RunOk rooms.length rs M X) : MadeNights rooms traps rs k N T X :=
  ⟨Q.lenN, Q.rowN, Q.lenT, Q.rowT, Q.night, Q.cell, r.pos, fun f hf => by rw [r.sum f hf]; exact Q.sum f hf⟩
theorem MadeNights.col {rooms traps : List Int} {rs : List (Int × Int)} {k : Nat} {N T : List (List Int)} {M : Nat → Nat → Int} (Q : MadeNights rooms traps rs k N T M) {f : Nat} (hf : f < rooms.length) : sumN (fun h => M h f) rooms.length ≤ nth rooms f := by
  have h1 := Q.sum f hf
  have h2 : 0 ≤ sumN (fun i => nth (nthR T i) f) (k * rooms.length) := sumN_nonneg fun i hi => by
    have hp : 0 < rooms.length := by omega
    have := (Q.cell (i / rooms.length) (i % rooms.length) f ((Nat.div_lt_iff_lt_mul hp).2 hi) (Nat.mod_lt _ hp) hf).1
    have e : i / rooms.length * rooms.length + i % rooms.length = i := by rw [Nat.mul_comm]; exact Nat.div_add_mod i rooms.length
    rw [e] at this
    exact this
  omega
theorem MadeNights.bound {rooms traps : List Int} {rs : List (Int × Int)} {k : Nat} {N T : List (List Int)} {M : Nat → Nat → Int} (Q : MadeNights rooms traps rs k N T M) (hr : ∀ i, i < rooms.length → 0 ≤ nth rooms i ∧ nth rooms i ≤ 8) {h f : Nat} (hh : h < rooms.length) (hf : f < rooms.length) : 0 ≤ M h f ∧ M h f ≤ 8 := by
  have h1 := Q.col hf
  have h2 := sumN_ge (f := fun h => M h f) (n := rooms.length) (k := h) (fun i hi => Q.pos i f hi hf) hh
  have h3 := hr f hf
  have h4 := Q.pos h f hh hf
  exact ⟨h4, by have h5 : M h f ≤ sumN (fun h => M h f) rooms.length := h2; omega⟩
/-- How far it is from one house on to another one, all around. -/
def onTo (n a b : Nat) : Nat := if a ≤ b then b - a else b + n - a
def nextOf (n a : Nat) : Nat := if a + 1 = n then 0 else a + 1
theorem nextOf_lt {n a : Nat} (h : a < n) : nextOf n a < n := by unfold nextOf; split <;> omega
theorem onTo_next {n a b : Nat} (ha : a < n) (hb : b < n) (hab : a ≠ b) : onTo n (nextOf n a) b < onTo n a b := by
  unfold onTo nextOf
  split <;> split <;> split <;> omega
theorem next_rem {n a : Nat} (ha : a < n) : ((a : Int) + 1).tmod n = (nextOf n a : Int) := by
  rw [Int.tmod_eq_emod_of_nonneg (by omega)]
  unfold nextOf
  split
  · have : (a : Int) + 1 = n := by omega
    rw [this]; simp
  · rw [Int.emod_eq_of_lt (by omega) (by omega)]; omega
/-- What is left, house by house, and by where it came from. -/
structure LeftIs (n : Nat) (M : Nat → Nat → Int) (h : Nat) (left : List Int) (L : Nat → Int) : Prop where
  len : left.length = h
  sums : ∀ i, i < h → nth left i = sumN (M i) n
  by_ : ∀ f, f < n → L f = sumN (fun i => M i f) h
theorem LeftIs.start (n : Nat) (M : Nat → Nat → Int) : LeftIs n M 0 [] (fun _ => 0) := ⟨rfl, fun i hi => by omega, fun f _ => rfl⟩
theorem LeftIs.more {n : Nat} {M : Nat → Nat → Int} {h : Nat} {left : List Int} {L : Nat → Int} (I : LeftIs n M h left L) : LeftIs n M (h + 1) (left ++ [sumN (M h) n]) (fun f => L f + M h f) := by
  have l := I.len
  refine ⟨by simp [l], fun i hi => ?_, fun f hf => ?_⟩
  · by_cases e : i = h
    · subst e; have := nth_last left (sumN (M i) n); rw [l] at this; exact this
    · rw [nth_snoc (by omega)]; exact I.sums i (by omega)
  · rw [sumN_succ, I.by_ f hf]
end Go.Proofs.Ytnhifinfjfpoiaa

namespace Go.Proofs.Ytnhifinfjfpoiaa
open Go.RowKit
set_option linter.unusedVariables false

/-- A part of memory: the blocks on which it rests, and what is told of them. -/
structure Part where
  foot : Nat → Prop
  told : World → Prop
  stable : ∀ w w' : World, (∀ k, foot k → w'.heap[k]? = w.heap[k]?) → told w → told w'
/-- Parts apart from each other, all at B or above. -/
structure Sep (w : World) (B : Nat) (ps : List Part) : Prop where
  told : ∀ (i : Nat) (x : Part), ps[i]? = some x → x.told w
  lt : ∀ (i : Nat) (x : Part), ps[i]? = some x → ∀ k, x.foot k → B ≤ k ∧ k < w.heap.size
  apart : ∀ (i j : Nat) (x y : Part), ps[i]? = some x → ps[j]? = some y → ∀ k, x.foot k → y.foot k → i = j

theorem Sep.nil (w : World) (B : Nat) : Sep w B [] := ⟨fun i x h => by simp at h, fun i x h => by simp at h, fun i j x y h => by simp at h⟩
theorem Sep.at {w : World} {B : Nat} {ps : List Part} (h : Sep w B ps) (i : Nat) {x : Part} (hi : ps[i]? = some x) : x.told w := h.told i x hi
/-- Part i turns, and nothing else that stood. -/
theorem Sep.set' {w w' : World} {B : Nat} {ps : List Part} (h : Sep w B ps) (i : Nat) {x : Part} (hi : ps[i]? = some x) (x' : Part) (hs : w.heap.size ≤ w'.heap.size) (hB : B ≤ w.heap.size)
    (hf : ∀ k, B ≤ k → k < w.heap.size → ¬ x.foot k → w'.heap[k]? = w.heap[k]?) (ht : x'.told w') (hx : ∀ k, x'.foot k → x.foot k ∨ (w.heap.size ≤ k ∧ k < w'.heap.size)) : Sep w' B (ps.set i x') := by
  have key : ∀ (j : Nat) (y : Part), (ps.set i x')[j]? = some y → (j = i ∧ y = x') ∨ (j ≠ i ∧ ps[j]? = some y) := fun j y hj => by
    rw [List.getElem?_set] at hj
    by_cases e : i = j
    · subst e
      rw [if_pos rfl] at hj
      split at hj
      · simp only [Option.some.injEq] at hj; exact .inl ⟨rfl, hj.symm⟩
      · cases hj
    · rw [if_neg e] at hj; exact .inr ⟨fun e2 => e e2.symm, hj⟩
  refine ⟨fun j y hj => ?_, fun j y hj k hk => ?_, fun a b y z ha hb k hy hz => ?_⟩
  · rcases key j y hj with ⟨_, rfl⟩ | ⟨hne, hj⟩
    · exact ht
    · exact y.stable w w' (fun k hk => hf k (h.lt j y hj k hk).1 (h.lt j y hj k hk).2 (fun hxk => hne (h.apart j i y x hj hi k hk hxk))) (h.told j y hj)
  · rcases key j y hj with ⟨_, rfl⟩ | ⟨hne, hj⟩
    · rcases hx k hk with q | q
      · have := h.lt i x hi k q; omega
      · omega
    · have := h.lt j y hj k hk; omega
  · rcases key a y ha with ⟨ea, rfl⟩ | ⟨hne, ha2⟩ <;> rcases key b z hb with ⟨eb, rfl⟩ | ⟨hne2, hb2⟩
    · omega
    · rcases hx k hy with q | q
      · exact absurd (h.apart i b x z hi hb2 k q hz).symm hne2
      · have := h.lt b z hb2 k hz; omega
    · rcases hx k hz with q | q
      · exact absurd (h.apart a i y x ha2 hi k hy q) hne
      · have := h.lt a y ha2 k hy; omega
    · exact h.apart a b y z ha2 hb2 k hy hz
theorem Sep.set {w w' : World} {B : Nat} {ps : List Part} (h : Sep w B ps) (i : Nat) {x : Part} (hi : ps[i]? = some x) (x' : Part) (hs : w.heap.size ≤ w'.heap.size) (hB : B ≤ w.heap.size)
    (hf : ∀ k, k < w.heap.size → ¬ x.foot k → w'.heap[k]? = w.heap[k]?) (ht : x'.told w') (hx : ∀ k, x'.foot k → x.foot k ∨ (w.heap.size ≤ k ∧ k < w'.heap.size)) : Sep w' B (ps.set i x') :=
  h.set' i hi x' hs hB (fun k _ h1 h2 => hf k h1 h2) ht hx
theorem Sep.keep {w w' : World} {B : Nat} {ps : List Part} (h : Sep w B ps) (hs : w.heap.size ≤ w'.heap.size) (hf : ∀ k, B ≤ k → k < w.heap.size → w'.heap[k]? = w.heap[k]?) : Sep w' B ps :=
  ⟨fun i x hi => x.stable w w' (fun k hk => hf k (h.lt i x hi k hk).1 (h.lt i x hi k hk).2) (h.told i x hi), fun i x hi k hk => by have := h.lt i x hi k hk; omega, h.apart⟩
theorem Sep.below {w w' : World} {B : Nat} {ps : List Part} (h : Sep w B ps) (hb : Below w.heap.size w w') : Sep w' B ps := h.keep hb.size fun k _ hk => hb.block k hk
theorem Sep.turned {w w' : World} {B p : Nat} {ps : List Part} (h : Sep w B ps) (ht : Turned p w w') (hp : p < B) : Sep w' B ps := h.keep ht.size fun k h1 hk => ht.block k hk (by omega)
theorem Sep.drew {w : World} {B : Nat} {ps : List Part} (h : Sep w B ps) : Sep w.drew B ps := h.below (Below.refl _ _).drew
/-- A new part. -/
theorem Sep.push {w w' : World} {B : Nat} {ps : List Part} (h : Sep w B ps) (x' : Part) (hb : Below w.heap.size w w') (hB : B ≤ w.heap.size) (ht : x'.told w') (hx : ∀ k, x'.foot k → w.heap.size ≤ k ∧ k < w'.heap.size) : Sep w' B (ps ++ [x']) := by
  have hs := hb.size
  have key : ∀ (j : Nat) (y : Part), (ps ++ [x'])[j]? = some y → (j = ps.length ∧ y = x') ∨ (j < ps.length ∧ ps[j]? = some y) := fun j y hj => by
    by_cases e : j < ps.length
    · rw [List.getElem?_append_left e] at hj; exact .inr ⟨e, hj⟩
    · rw [List.getElem?_append_right (by omega)] at hj
      by_cases e2 : j = ps.length
      · subst e2; simp at hj; exact .inl ⟨rfl, hj.symm⟩
      · rw [List.getElem?_eq_none (by simp; omega)] at hj; cases hj
  refine ⟨fun j y hj => ?_, fun j y hj k hk => ?_, fun a b y z ha hb k hy hz => ?_⟩
  · rcases key j y hj with ⟨_, rfl⟩ | ⟨_, hj⟩
    · exact ht
    · exact (h.below hb).told j y hj
  · rcases key j y hj with ⟨_, rfl⟩ | ⟨_, hj⟩
    · have := hx k hk; omega
    · have := h.lt j y hj k hk; omega
  · rcases key a y ha with ⟨ea, rfl⟩ | ⟨e1, ha2⟩ <;> rcases key b z hb with ⟨eb, rfl⟩ | ⟨e2, hb2⟩
    · omega
    · have a1 := hx k hy; have a2 := h.lt b z hb2 k hz; omega
    · have a1 := hx k hz; have a2 := h.lt a y ha2 k hy; omega
    · exact h.apart a b y z ha2 hb2 k hy hz
/-- Parts i and j, taken as one. -/
def Part.and (x y : Part) : Part := ⟨fun k => x.foot k ∨ y.foot k, fun w => x.told w ∧ y.told w, fun w w' hk h => ⟨x.stable w w' (fun k h1 => hk k (.inl h1)) h.1, y.stable w w' (fun k h1 => hk k (.inr h1)) h.2⟩⟩
/-- A part of which nothing is told. -/
def Part.none : Part := ⟨fun _ => False, fun _ => True, fun _ _ _ _ => trivial⟩
theorem Sep.join {w : World} {B : Nat} {ps : List Part} (h : Sep w B ps) (i j : Nat) {x y : Part} (hi : ps[i]? = some x) (hj : ps[j]? = some y) (hij : i ≠ j) : Sep w B ((ps.set i (x.and y)).set j Part.none) := by
  have key : ∀ (a : Nat) (z : Part), ((ps.set i (x.and y)).set j Part.none)[a]? = some z → (a = j ∧ z = Part.none) ∨ (a = i ∧ z = x.and y) ∨ (a ≠ i ∧ a ≠ j ∧ ps[a]? = some z) := fun a z ha => by
    rw [List.getElem?_set] at ha
    by_cases e : j = a
    · rw [if_pos e] at ha
      split at ha
      · simp only [Option.some.injEq] at ha; exact .inl ⟨e.symm, ha.symm⟩
      · cases ha
    · rw [if_neg e, List.getElem?_set] at ha
      by_cases e2 : i = a
      · rw [if_pos e2] at ha
        split at ha
        · simp only [Option.some.injEq] at ha; exact .inr (.inl ⟨e2.symm, ha.symm⟩)
        · cases ha
      · rw [if_neg e2] at ha; exact .inr (.inr ⟨fun q => e2 q.symm, fun q => e q.symm, ha⟩)
  refine ⟨fun a z ha => ?_, fun a z ha k hk => ?_, fun a b z z' ha hb k hz hz' => ?_⟩
  · rcases key a z ha with ⟨_, rfl⟩ | ⟨_, rfl⟩ | ⟨_, _, ha⟩
    · exact trivial
    · exact ⟨h.told i x hi, h.told j y hj⟩
    · exact h.told a z ha
  · rcases key a z ha with ⟨_, rfl⟩ | ⟨_, rfl⟩ | ⟨_, _, ha⟩
    · exact hk.elim
    · rcases hk with hk | hk
      · exact h.lt i x hi k hk
      · exact h.lt j y hj k hk
    · exact h.lt a z ha k hk
  · rcases key a z ha with ⟨_, rfl⟩ | ⟨ea, rfl⟩ | ⟨a1, a2, ha⟩
    · exact hz.elim
    · rcases key b z' hb with ⟨_, rfl⟩ | ⟨eb, rfl⟩ | ⟨b1, b2, hb⟩
      · exact hz'.elim
      · omega
      · rcases hz with hz | hz
        · exact absurd (h.apart i b x z' hi hb k hz hz').symm b1
        · exact absurd (h.apart j b y z' hj hb k hz hz').symm b2
    · rcases key b z' hb with ⟨_, rfl⟩ | ⟨eb, rfl⟩ | ⟨b1, b2, hb⟩
      · exact hz'.elim
      · rcases hz' with hz' | hz'
        · exact absurd (h.apart a i z x ha hi k hz hz') a1
        · exact absurd (h.apart a j z y ha hj k hz hz') a2
      · exact h.apart a b z z' ha hb k hz hz'

/-- A block of cells. -/
def pBlk (b t : Nat) (cs : Array Value) : Part := ⟨fun k => k = b, fun w => w.heap[b]? = some (.cells cs t (0, 0)), fun w w' hk h => (hk b rfl).trans h⟩
/-- A block of numbers. -/
def pInt (b n : Nat) (f : Nat → Int) : Part := ⟨fun k => k = b, fun w => IntBlk w b n f, fun w w' hk h => h.eq (hk b rfl)⟩
/-- A matrix. -/
def pMat (g n : Nat) (nb : Nat → Nat) (M : Nat → Nat → Int) : Part := ⟨fun k => k = g ∨ ∃ j, j < n ∧ k = nb j, fun w => MatAt w g n nb M, fun w w' hk h => h.eq (hk g (.inl rfl)) (fun j hj => hk _ (.inr ⟨j, hj, rfl⟩))⟩
theorem owns_eq {w w' : World} {B e sz n : Nat} {v : Value} {xs : List Value} (h : w.ownsRow B e sz v n xs) (hk : ∀ k, v.ownBlock = some k → w'.heap[k]? = w.heap[k]?) : w'.ownsRow B e sz v n xs := by
  refine ⟨h.1, ?_⟩
  rcases h.2 with h2 | ⟨g, cap, cur, rfl, hb, hg, hr⟩
  · exact .inl h2
  · exact .inr ⟨g, cap, cur, rfl, hb, (hk g rfl).trans hg, hr⟩
/-- A row of one's own. -/
def pRow (B e sz n : Nat) (v : Value) (xs : List Value) : Part := ⟨fun k => v.ownBlock = some k, fun w => w.ownsRow B e sz v n xs, fun w w' hk h => owns_eq h hk⟩
/-- Rows of numbers, each in a block of its own, headed by a row of one's own. -/
def pRows (B n : Nat) (v : Value) (nb : Nat → Nat) (rows : List (List Int)) : Part :=
  ⟨fun k => v.ownBlock = some k ∨ ∃ j, j < rows.length ∧ k = nb j,
   fun w => (∃ fs, w.ownsRow B 22 1 v rows.length fs ∧ ∀ j, j < rows.length → ∃ c, n ≤ c ∧ fs[j]? = some (.slice (some ⟨nb j, 0, none⟩) n c)) ∧ ∀ j, j < rows.length → (nthR rows j).length = n ∧ IntBlk w (nb j) n (nth (nthR rows j)),
   fun w w' hk h => by
    obtain ⟨⟨fs, h1, h2⟩, h3⟩ := h
    exact ⟨⟨fs, owns_eq h1 (fun k e => hk k (.inl e)), h2⟩, fun j hj => ⟨(h3 j hj).1, (h3 j hj).2.eq (hk _ (.inr ⟨j, hj, rfl⟩))⟩⟩⟩
theorem Sep.setBlk {w : World} {B : Nat} {ps : List Part} (h : Sep w B ps) (hB : B ≤ w.heap.size) (i : Nat) {b t : Nat} {cs : Array Value} (hi : ps[i]? = some (pBlk b t cs)) (o : Nat) (x : Value) : Sep (w.setCell ⟨b, o, none⟩ x) B (ps.set i (pBlk b t (cs.setIfInBounds o x))) :=
  h.set i hi _ (by simp) hB (fun k _ hk => Below.heap_setCell _ _ _ _ hk) (heap_setCell_same w b _ _ _ _ (h.at i hi)) (fun k hk => .inl hk)
theorem Sep.setInt {w : World} {B : Nat} {ps : List Part} (h : Sep w B ps) (hB : B ≤ w.heap.size) (i : Nat) {b n : Nat} {f : Nat → Int} (hi : ps[i]? = some (pInt b n f)) {o : Nat} (ho : o < n) (x : Int) : Sep (w.setCell ⟨b, o, none⟩ (.int .i64 x)) B (ps.set i (pInt b n (fun j => if j = o then x else f j))) :=
  h.set i hi _ (by simp) hB (fun k _ hk => Below.heap_setCell _ _ _ _ hk) (IntBlk.set (h.at i hi) x ho) (fun k hk => .inl hk)
theorem Sep.setMat {w : World} {B : Nat} {ps : List Part} (h : Sep w B ps) (hB : B ≤ w.heap.size) (i : Nat) {g n : Nat} {nb : Nat → Nat} {M : Nat → Nat → Int} (hi : ps[i]? = some (pMat g n nb M)) {a o : Nat} (ha : a < n) (ho : o < n) (x : Int) : Sep (w.setCell ⟨nb a, o, none⟩ (.int .i64 x)) B (ps.set i (pMat g n nb (setM M a o x))) :=
  h.set i hi _ (by simp) hB (fun k _ hk => Below.heap_setCell _ _ _ _ (fun e => hk (.inr ⟨a, ha, e⟩))) (MatAt.set (h.at i hi) x ha ho) (fun k hk => .inl hk)
theorem Sep.grown {w w' : World} {B : Nat} {ps : List Part} (h : Sep w B ps) (hB : B ≤ w.heap.size) (i : Nat) {B' e sz n : Nat} {v : Value} {xs : List Value} (hi : ps[i]? = some (pRow B' e sz n v xs)) {n' : Nat} {v' : Value} {xs' : List Value} (ho : w'.ownsRow B' e sz v' n' xs') (hg : w.grownBy w' v.ownBlock)
    (hv : v'.ownBlock = v.ownBlock ∨ v'.ownBlock = some w.heap.size) : Sep w' B (ps.set i (pRow B' e sz n' v' xs')) :=
  h.set i hi _ hg.size hB (fun k hk hne => hg.block k hk (fun q => hne q.symm)) ho (fun k hk => by
    have hk' : v'.ownBlock = some k := hk
    rcases hv with q | q
    · exact .inl (show v.ownBlock = some k by rw [← q]; exact hk')
    · rw [q] at hk'
      simp only [Option.some.injEq] at hk'
      have := (ho.lt k hk).2
      exact .inr ⟨by omega, this⟩)
theorem Sep.newBlk {w : World} {B : Nat} {ps : List Part} (h : Sep w B ps) (hB : B ≤ w.heap.size) (t : Nat) (cs : Array Value) : Sep (w.alloc (.cells cs t)) B (ps ++ [pBlk w.heap.size t cs]) :=
  h.push _ ((Below.refl _ _).alloc (Nat.le_refl _) _) hB (heap_alloc_new _ _) (fun k hk => by
    have : k = w.heap.size := hk
    subst this; simp)
theorem Sep.newRow {w : World} {B : Nat} {ps : List Part} (h : Sep w B ps) (hB : B ≤ w.heap.size) (B' e sz : Nat) : Sep w B (ps ++ [pRow B' e sz 0 (.slice none 0 0) []]) :=
  h.push _ (Below.refl _ _) hB (World.ownsRow_nil _ _ _ _) (fun k hk => by cases (show Value.ownBlock (.slice none 0 0) = some k from hk))
/-- The chute lies below: what turns at B or above leaves it. -/
theorem ChuteAt.low {w w' : World} {p B : Nat} {v : Value} {xs : List Int} (h : ChuteAt w p v xs) (hb : Below B w w') (hp : p < B) : ChuteAt w' p v xs := by
  obtain ⟨u, s, h1, h2⟩ := h.blk
  exact ⟨⟨u, s, (hb.block p hp).trans h1, h2⟩, h.bytes.1.below hb (by omega), h.bytes.2⟩
theorem grown_low {B e sz n : Nat} {v : Value} {xs : List Value} {w w' : World} (ho : w.ownsRow B e sz v n xs) (hg : w.grownBy w' v.ownBlock) (hB : B ≤ w.heap.size) : Below B w w' :=
  below_grown (Below.refl B w) hg (fun r hr => (ho.lt r hr).1) hB
end Go.Proofs.Ytnhifinfjfpoiaa

namespace Go.Proofs.Ytnhifinfjfpoiaa
open Go.RowKit
set_option linter.unusedVariables false

set_option maxHeartbeats 1000000 in
theorem turn1_any (b : Nat) (x y a c : Int) (w : World) (h : w.heap[b]? = some (.cells #[.int .i64 a, .int .i64 c] 63 (0, 0))) :
    Calls Try.prog 105 #[.agg #[.int .i64 x, .int .i64 y], .pointer (some ⟨b, 0, none⟩)] w fun e w' => e = .returned (.bool (x == c && y == a)) ∧ Below w.heap.size w w' := by
  have hbw : Below w.heap.size w (w.alloc (.cells #[.int .i64 x, .int .i64 y] 63)) := (Below.refl _ _).alloc (Nat.le_refl _) _
  have hblt : b < w.heap.size := (Array.getElem?_eq_some_iff.1 h).1
  have m1 : (w.alloc (.cells #[.int .i64 x, .int .i64 y] 63)).cell? ⟨b, 0, none⟩ = some (.int .i64 a) := (cell_of_row _ b 0 _ _ _ ((hbw.block b hblt).trans h)).trans rfl
  have m2 : (w.alloc (.cells #[.int .i64 x, .int .i64 y] 63)).cell? ⟨b, 1, none⟩ = some (.int .i64 c) := (cell_of_row _ b 1 _ _ _ ((hbw.block b hblt).trans h)).trans rfl
  have HB := Lib.hid hbw
  clear hbw h hblt
  by_cases e : x = c
  · subst e
    go_enter Try.func105, Try.ntmps105
    go_wp2_with fail
    go_ret
    exact ⟨ret_bool (by simp), HB.out⟩
  · go_enter Try.func105, Try.ntmps105
    go_wp2_with fail
    go_ret
    exact ⟨ret_bool (by simp [e]), HB.out⟩
theorem anyB_turn (rs : List (Int × Int)) (a c : Int) : anyB (fun i => (nthP rs i).1 == c && (nthP rs i).2 == a) rs.length = turnB rs a c := by
  unfold anyB turnB
  rw [Bool.eq_iff_iff, List.any_eq_true, List.any_eq_true]
  constructor
  · rintro ⟨i, hi, h⟩
    exact ⟨nthP rs i, nthP_mem (List.mem_range.1 hi), h⟩
  · rintro ⟨o, ho, h⟩
    obtain ⟨i, hi, rfl⟩ := List.mem_iff_getElem.1 ho
    exact ⟨i, List.mem_range.2 hi, by rw [nthP_eq hi]; exact h⟩
theorem turn_any (v : Value) (rs : List (Int × Int)) (b : Nat) (a c : Int) (w : World) (h : IsPairs w w.heap.size v rs) (hb : w.heap[b]? = some (.cells #[.int .i64 a, .int .i64 c] 63 (0, 0))) :
    Calls Try.prog 39 #[v, .func (.func 105) #[] #[.pointer (some ⟨b, 0, none⟩)]] w fun e w' => e = .returned (.bool (turnB rs a c)) ∧ Below w.heap.size w w' := by
  have hblt : b < w.heap.size := (Array.getElem?_eq_some_iff.1 hb).1
  rw [← anyB_turn]
  refine containsRuns_any v rs.length _ _ _ (pcell rs) w h.1 ⟨Try.call105, fun i hi w' hw hB => ?_⟩
  have e : (#[Value.agg #[pcell rs (i * 2), pcell rs (i * 2 + 1)]] ++ #[Value.pointer (some ⟨b, 0, none⟩)]) = #[.agg #[.int .i64 (nthP rs i).1, .int .i64 (nthP rs i).2], .pointer (some ⟨b, 0, none⟩)] := by
    have e1 : i * 2 % 2 = 0 := by omega
    have e2 : (i * 2 + 1) % 2 = 1 := by omega
    have e3 : i * 2 / 2 = i := by omega
    have e4 : (i * 2 + 1) / 2 = i := by omega
    simp [pcell, e1, e2, e3, e4]
  rw [e]
  exact turn1_any b _ _ a c w' ((hw.block b hblt).trans hb)
end Go.Proofs.Ytnhifinfjfpoiaa

namespace Go.Proofs.Ytnhifinfjfpoiaa
open Go.RowKit
set_option linter.unusedVariables false

theorem made_rowsN (n : Nat) : madeCells (Value.cells (.slice none 0 0)) n = Array.replicate n (.slice none 0 0) := by
  unfold madeCells
  refine Array.ext (by simp) fun i h1 h2 => ?_
  have e : (Value.cells (.slice none 0 0)).size = 1 := rfl
  simp [e, Nat.mod_one]
  rfl
theorem make_rowsN (n : Nat) (hn : n ≤ 100) (w : World) : (Instr.makeSlice 24 (.int .i64 (n : Int)) (.int .i64 (n : Int))).run Try.prog w = .ok (.slice (some ⟨w.heap.size, 0, none⟩) n n) (w.alloc (.cells (Array.replicate n (.slice none 0 0)) 22)) := by
  obtain ⟨i0, hi, hz0, hz1, hz2⟩ := info_parts infoRow
  have hb : (i0.bytes : Int) * (n : Int) ≤ 281474976710656 := by rw [hz2]; omega
  have h := run_make (P := Try.prog) w 24 22 i0 (.slice none 0 0) Try.underlying24 hi hz0 .i64 .i64 n n (Int.natCast_nonneg n) (Int.le_refl _) hb (by omega)
  rw [hz1, Int.toNat_natCast, Nat.mul_one, made_rowsN] at h
  exact h
/-- Block g heads n rows; those below h are made. -/
structure MatTo (w : World) (g n h : Nat) (nb : Nat → Nat) (M : Nat → Nat → Int) : Prop where
  head : ∃ A : Array Value, w.heap[g]? = some (.cells A 22 (0, 0)) ∧ A.size = n ∧ ∀ j, j < h → A[j]? = some (.slice (some ⟨nb j, 0, none⟩) n n)
  row : ∀ j, j < h → IntBlk w (nb j) n (M j)
  inj : ∀ i j, i < h → j < h → nb i = nb j → i = j
theorem MatTo.eq {w w' : World} {g n h : Nat} {nb : Nat → Nat} {M : Nat → Nat → Int} (H : MatTo w g n h nb M) (e : w'.heap[g]? = w.heap[g]?) (e2 : ∀ j, j < h → w'.heap[nb j]? = w.heap[nb j]?) : MatTo w' g n h nb M := by
  obtain ⟨A, h1, h2⟩ := H.head
  exact ⟨⟨A, e.trans h1, h2⟩, fun j hj => (H.row j hj).eq (e2 j hj), H.inj⟩
theorem MatTo.start (w : World) (n : Nat) (nb : Nat → Nat) (M : Nat → Nat → Int) : MatTo (w.alloc (.cells (Array.replicate n (.slice none 0 0)) 22)) w.heap.size n 0 nb M :=
  ⟨⟨_, heap_alloc_new _ _, by simp, fun j hj => by omega⟩, fun j hj => by omega, fun i j hi => by omega⟩
theorem MatTo.full {w : World} {g n : Nat} {nb : Nat → Nat} {M : Nat → Nat → Int} (H : MatTo w g n n nb M) : MatAt w g n nb M := by
  obtain ⟨A, h1, h2, h3⟩ := H.head
  exact ⟨⟨A, h1, by omega, fun j hj => ⟨n, Nat.le_refl _, h3 j hj⟩⟩, H.row, H.inj⟩
/-- A row more: block b, all of it noughts, then one number set. -/
theorem MatTo.row_more {w w' : World} {g n h b : Nat} {nb : Nat → Nat} {M : Nat → Nat → Int} (H : MatTo w g n h nb M) (hh : h < n) (hk : ∀ j, j < h → w'.heap[nb j]? = w.heap[nb j]?) (hb : ∀ j, j < h → nb j ≠ b) {f : Nat → Int} (hrow : IntBlk w' b n f)
    (hhead : ∀ A : Array Value, w.heap[g]? = some (.cells A 22 (0, 0)) → w'.heap[g]? = some (.cells (A.setIfInBounds h (.slice (some ⟨b, 0, none⟩) n n)) 22 (0, 0))) :
    MatTo w' g n (h + 1) (fun j => if j = h then b else nb j) (fun j => if j = h then f else M j) := by
  obtain ⟨A, h1, h2, h3⟩ := H.head
  refine ⟨⟨_, hhead A h1, by simpa using h2, fun j hj => ?_⟩, fun j hj => ?_, fun i j hi hj e => ?_⟩
  · rw [Array.getElem?_setIfInBounds]
    by_cases e : j = h
    · subst e; simp; omega
    · rw [if_neg (fun q => e q.symm)]
      simp only [if_neg e]
      exact h3 j (by omega)
  · by_cases e : j = h
    · subst e; simp only [if_pos]; exact hrow
    · simp only [if_neg e]; exact (H.row j (by omega)).eq (hk j (by omega))
  · by_cases ei : i = h <;> by_cases ej : j = h
    · omega
    · simp only [if_pos ei, if_neg ej] at e
      exact absurd e.symm (hb j (by omega))
    · simp only [if_neg ei, if_pos ej] at e
      exact absurd e (hb i (by omega))
    · simp only [if_neg ei, if_neg ej] at e
      exact H.inj i j (by omega) (by omega) e
def pMatTo (g n h : Nat) (nb : Nat → Nat) (M : Nat → Nat → Int) : Part := ⟨fun k => k = g ∨ ∃ j, j < h ∧ k = nb j, fun w => MatTo w g n h nb M, fun w w' hk H => H.eq (hk g (.inl rfl)) (fun j hj => hk _ (.inr ⟨j, hj, rfl⟩))⟩
end Go.Proofs.Ytnhifinfjfpoiaa

namespace Go.Proofs.Ytnhifinfjfpoiaa
open Go.RowKit
set_option linter.unusedVariables false

section
variable {P : Program} {ops : Array Oper} {Q : Exit → Act → World → Prop} {md : Region.Mode} {S : Array Bool → World → Prop}

/-- Whatever comes up, and S of what has come up holds behind each operation. -/
def anyL (P : Program) (md : Region.Mode) (ops : Array Oper) (Q : Exit → Act → World → Prop) (S : Array Bool → World → Prop) : Nat → Array Bool → Act → World → Prop
  | 0, l, a, w => Region.ready md ops l = [] ∧ Q .normal a w
  | n + 1, l, a, w => (Region.ready md ops l = [] → Q .normal a w) ∧ ∀ i ∈ Region.ready md ops l, wpOp P ops Q i (fun a' w' => S (l.setIfInBounds i true) w' ∧ anyL P md ops Q S n (l.setIfInBounds i true) a' w') a w
theorem anyL_any : ∀ (n : Nat) (l : Array Bool) (a : Act) (w : World), anyL P md ops Q S n l a w → wpAny P md ops Q n l a w
  | 0, _, _, _, h => h
  | n + 1, _, _, _, h => ⟨h.1, fun i hi => wpOp_mono (fun a' w' h' => anyL_any n _ a' w' h'.2) (h.2 i hi)⟩
theorem anyL_start {id : Nat} {a : Act} {w : World} (hm : P.follows .mixedOrders = true) (hS : S (Array.replicate ops.size false) w.drew)
    (h : S (Array.replicate ops.size false) w.drew → anyL P .any ops Q S ops.size (Array.replicate ops.size false) a w.drew) : (Code.region id ops true).wp P Q a w := by
  have H := anyL_any (P := P) (md := .any) (ops := ops) (Q := Q) (S := S) ops.size (Array.replicate ops.size false) a w.drew (h hS)
  refine wp_region_held (S := fun _ => True) hm ?_
  have key : ∀ (n : Nat) (l : Array Bool) (a : Act) (w : World), wpAny P .any ops Q n l a w → wpAnyH P .any ops Q (fun _ => True) n l a w := by
    intro n
    induction n with
    | zero => exact fun l a w h => h
    | succ n ih => exact fun l a w h => ⟨h.1, fun i hi => wpOp_mono (fun a' w' h' => ⟨trivial, ih _ a' w' h'⟩) (h.2 i hi)⟩
  exact key _ _ _ _ H
theorem anyL_ready {rs : List Nat} {n : Nat} {l : Array Bool} {a : Act} {w : World} (hr : Region.ready md ops l = rs) (hne : rs ≠ [])
    (h : ∀ i ∈ rs, wpOp P ops Q i (fun a' w' => S (l.setIfInBounds i true) w' ∧ anyL P md ops Q S n (l.setIfInBounds i true) a' w') a w) : anyL P md ops Q S (n + 1) l a w :=
  ⟨fun h0 => absurd (hr ▸ h0) hne, hr ▸ h⟩
theorem anyL_done {l : Array Bool} {a : Act} {w : World} (hr : Region.ready md ops l = []) (h : Q .normal a w) : ∀ n, anyL P md ops Q S n l a w
  | 0 => ⟨hr, h⟩
  | _ + 1 => ⟨fun _ => h, by rw [hr]; simp⟩
end
section
variable {P : Program} {ops : Array Oper} {Q : Exit → Act → World → Prop} {md : Region.Mode} {st : List Nat} {C : World → Prop}
/-- Until one of the operations st has come up, C holds. -/
def Till (st : List Nat) (C : World → Prop) (l : Array Bool) (w : World) : Prop := (∀ j ∈ st, l.getD j true = false) → C w
/-- Every operation of st waits for number i. -/
def waits (md : Region.Mode) (ops : Array Oper) (st : List Nat) (i : Nat) : Bool := st.all fun j => match ops[j]? with
  | some o => o.after.any fun e => Region.binds md e && e.on == i
  | none => false
theorem anyL_first {i : Nat} {oi : Oper} {v : Value} (hi : ops[i]? = some oi) (hsel : ∀ (j : Nat) (o : Oper) cs b, ops[j]? = some o → o.op ≠ .select cs b)
    (hQ : ∀ c a w, Q (.panic c) (a.put oi.dst v) w → Q (.panic c) a w) (hst : waits md ops st i = true) (hist : i ∉ st) :
    ∀ (n : Nat) (l : Array Bool) (a : Act) (w : World),
      (∀ j oj, ops[j]? = some oj → j ≠ i → l.getD j true = false → (∀ e ∈ oj.after, Region.binds md e = true → e.on ≠ i) → oi.apart ops oj = true) →
      i ∈ Region.ready md ops l → (∀ j ∈ st, l.getD j true = false) → YieldsIf P ops C oi v a → C w →
      anyL P md ops Q (Till st C) n (l.setIfInBounds i true) (a.put oi.dst v) w → anyL P md ops Q (Till st C) (n + 1) l a w := by
  have hst' : ∀ j ∈ st, ∃ o, ops[j]? = some o ∧ ∃ e ∈ o.after, Region.binds md e = true ∧ e.on = i := fun j hj => by
    have h := List.all_eq_true.1 hst j hj
    split at h
    · rename_i o ho
      rw [Array.any_eq_true'] at h
      obtain ⟨e, he, hb⟩ := h
      rw [Bool.and_eq_true, beq_iff_eq] at hb
      exact ⟨o, ho, e, he, hb.1, hb.2⟩
    · cases h
  intro n
  induction n with
  | zero =>
    intro l a w _ hr _ hy hC H
    refine ⟨fun h => (by rw [h] at hr; cases hr), fun j hj => ?_⟩
    by_cases hji : j = i
    · subst hji; exact hy.wpOp hi hC ⟨fun _ => hC, H⟩
    · have := ready_mono hj hji
      rw [H.1] at this
      cases this
  | succ n ih =>
    intro l a w hfree hr hls hy hC H
    refine ⟨fun h => (by rw [h] at hr; cases hr), fun j hj => ?_⟩
    by_cases hji : j = i
    · subst hji; exact hy.wpOp hi hC ⟨fun _ => hC, H⟩
    · have h1 := H.2 j (ready_mono hj hji)
      obtain ⟨hjun, oj, hoj, hall⟩ := mem_ready.1 hj
      have hnot : ∀ e ∈ oj.after, Region.binds md e = true → e.on ≠ i := fun e he hb heq => by
        have h1 := hall e he hb
        have h0 := (mem_ready.1 hr).1
        rw [heq] at h1
        rcases Nat.lt_or_ge i l.size with h' | h'
        · simp [h'] at h0 h1; rw [h0] at h1; cases h1
        · simp [Array.getElem?_eq_none h'] at h1
      have hjst : j ∉ st := fun hm => by
        obtain ⟨o, ho, e, he, hb, hon⟩ := hst' j hm
        rw [hoj] at ho
        cases ho
        exact hnot e he hb hon
      have hls' : ∀ k ∈ st, (l.setIfInBounds j true).getD k true = false := fun k hk => by
        rw [getD_set_ne true (fun e => hjst (by rw [e]; exact hk))]; exact hls k hk
      have hls'' : ∀ k ∈ st, ((l.setIfInBounds i true).setIfInBounds j true).getD k true = false := fun k hk => by
        rw [getD_set_ne true (fun e => hjst (by rw [e]; exact hk)), getD_set_ne true (fun e => hist (by rw [e]; exact hk))]; exact hls k hk
      have h2 := wpOp_putIf hoj (hfree j oj hoj hji hjun hnot) (fun cs b => hsel i oi cs b hi) (fun cs b => hsel j oj cs b hoj) hQ hy h1
      have hfree' : ∀ k ok, ops[k]? = some ok → k ≠ i → (l.setIfInBounds j true).getD k true = false →
          (∀ e ∈ ok.after, Region.binds md e = true → e.on ≠ i) → oi.apart ops ok = true := fun k ok hk hki hun hno => by
        refine hfree k ok hk hki ?_ hno
        by_cases hjk : j = k
        · subst hjk; exact hjun
        · rw [getD_set_ne true hjk] at hun; exact hun
      refine wpOp_mono (fun a' w' h3 => ?_) h2
      have hC' : C w' := h3.2.1 hls''
      refine ⟨fun _ => hC', ih (l.setIfInBounds j true) a' w' hfree' (ready_mono hr (Ne.symm hji)) hls' h3.1 hC' ?_⟩
      rw [Array.setIfInBounds_comm _ _ hji]
      exact h3.2.2
/-- The same for what yields in whatever world. -/
theorem anyL_first0 {i : Nat} {oi : Oper} {v : Value} (hi : ops[i]? = some oi) (hsel : ∀ (j : Nat) (o : Oper) cs b, ops[j]? = some o → o.op ≠ .select cs b)
    (hQ : ∀ c a w, Q (.panic c) (a.put oi.dst v) w → Q (.panic c) a w) (hist : i ∉ st) :
    ∀ (n : Nat) (l : Array Bool) (a : Act) (w : World),
      (∀ j oj, ops[j]? = some oj → j ≠ i → l.getD j true = false → (∀ e ∈ oj.after, Region.binds md e = true → e.on ≠ i) → oi.apart ops oj = true) →
      i ∈ Region.ready md ops l → Till st C l w → YieldsIf P ops (fun _ => True) oi v a →
      anyL P md ops Q (Till st C) n (l.setIfInBounds i true) (a.put oi.dst v) w → anyL P md ops Q (Till st C) (n + 1) l a w := by
  have tl : ∀ {l : Array Bool} {w : World}, Till st C l w → Till st C (l.setIfInBounds i true) w := fun h hls => h fun k hk => by
    have := hls k hk
    rwa [getD_set_ne true (fun e => hist (by rw [e]; exact hk))] at this
  have lt : ∀ {l : Array Bool} {w : World}, Till st C (l.setIfInBounds i true) w → Till st C l w := fun h hls => h fun k hk => by
    rw [getD_set_ne true (fun e => hist (by rw [e]; exact hk))]; exact hls k hk
  intro n
  induction n with
  | zero =>
    intro l a w _ hr hT hy H
    refine ⟨fun h => (by rw [h] at hr; cases hr), fun j hj => ?_⟩
    by_cases hji : j = i
    · subst hji; exact hy.wpOp hi trivial ⟨tl hT, H⟩
    · have := ready_mono hj hji
      rw [H.1] at this
      cases this
  | succ n ih =>
    intro l a w hfree hr hT hy H
    refine ⟨fun h => (by rw [h] at hr; cases hr), fun j hj => ?_⟩
    by_cases hji : j = i
    · subst hji; exact hy.wpOp hi trivial ⟨tl hT, H⟩
    · have h1 := H.2 j (ready_mono hj hji)
      obtain ⟨hjun, oj, hoj, hall⟩ := mem_ready.1 hj
      have hnot : ∀ e ∈ oj.after, Region.binds md e = true → e.on ≠ i := fun e he hb heq => by
        have h1 := hall e he hb
        have h0 := (mem_ready.1 hr).1
        rw [heq] at h1
        rcases Nat.lt_or_ge i l.size with h' | h'
        · simp [h'] at h0 h1; rw [h0] at h1; cases h1
        · simp [Array.getElem?_eq_none h'] at h1
      have h2 := wpOp_putIf hoj (hfree j oj hoj hji hjun hnot) (fun cs b => hsel i oi cs b hi) (fun cs b => hsel j oj cs b hoj) hQ hy h1
      have hfree' : ∀ k ok, ops[k]? = some ok → k ≠ i → (l.setIfInBounds j true).getD k true = false →
          (∀ e ∈ ok.after, Region.binds md e = true → e.on ≠ i) → oi.apart ops ok = true := fun k ok hk hki hun hno => by
        refine hfree k ok hk hki ?_ hno
        by_cases hjk : j = k
        · subst hjk; exact hjun
        · rw [getD_set_ne true hjk] at hun; exact hun
      refine wpOp_mono (fun a' w' h3 => ?_) h2
      have e : (l.setIfInBounds i true).setIfInBounds j true = (l.setIfInBounds j true).setIfInBounds i true := Array.setIfInBounds_comm _ _ (Ne.symm hji)
      have hT' : Till st C (l.setIfInBounds j true) w' := lt (by rw [← e]; exact h3.2.1)
      refine ⟨hT', ih (l.setIfInBounds j true) a' w' hfree' (ready_mono hr (Ne.symm hji)) hT' h3.1 ?_⟩
      rw [← e]
      exact h3.2.2
/-- Number i, a load, is taken first. -/
theorem takeL {i d : Nat} {oi : Oper} {v : Value} {n : Nat} {l : Array Bool} {a : Act} {w : World} (hi : ops[i]? = some oi) (hd : oi.dst = some d)
    (hs : Region.noSelect ops = true) (hf : Region.free md ops l i = true) (hr : (Region.ready md ops l).contains i = true) (hst : waits md ops st i = true) (hist : st.contains i = false) (hls : (st.all fun j => l.getD j true == false) = true)
    (hQ : ∀ c d' v' a w, Q (.panic c) (a.put d' v') w → Q (.panic c) a w) (hw : Region.wanted oi (yielded ops a.tmps) = true) (hv : ∀ w, C w → (execOp a.eval oi).run P w = .ok (.value v) w) (hC : C w)
    (h : anyL P md ops Q (Till st C) n (l.setIfInBounds i true) (a.put (some d) v) w) : anyL P md ops Q (Till st C) (n + 1) l a w :=
  anyL_first hi (Region.noSelect_spec hs) (fun c a w => hQ c _ _ a w) hst (by simpa using hist) n l a w (Region.free_spec hi hf) (by simpa using hr) (fun j hj => by simpa using List.all_eq_true.1 hls j hj) (.inl ⟨hw, hv⟩) hC (by rw [hd]; exact h)
/-- Number i, which no world turns, is taken first. -/
theorem takeL0 {i d : Nat} {oi : Oper} {v : Value} {n : Nat} {l : Array Bool} {a : Act} {w : World} (hi : ops[i]? = some oi) (hd : oi.dst = some d)
    (hs : Region.noSelect ops = true) (hf : Region.free md ops l i = true) (hr : (Region.ready md ops l).contains i = true) (hist : st.contains i = false)
    (hQ : ∀ c d' v' a w, Q (.panic c) (a.put d' v') w → Q (.panic c) a w) (hw : Region.wanted oi (yielded ops a.tmps) = true) (hv : ∀ w, (execOp a.eval oi).run P w = .ok (.value v) w) (hT : Till st C l w)
    (h : anyL P md ops Q (Till st C) n (l.setIfInBounds i true) (a.put (some d) v) w) : anyL P md ops Q (Till st C) (n + 1) l a w :=
  anyL_first0 hi (Region.noSelect_spec hs) (fun c a w => hQ c _ _ a w) (by simpa using hist) n l a w (Region.free_spec hi hf) (by simpa using hr) hT (.inl ⟨hw, fun w _ => hv w⟩) (by rw [hd]; exact h)
/-- Number i comes up next, and nothing else can. -/
theorem nextL {i : Nat} {oi : Oper} {n : Nat} {l : Array Bool} {a : Act} {w : World} (hi : ops[i]? = some oi) (hr : Region.ready md ops l = [i])
    (h : ∀ K' : Act → World → Prop, Shut (∀ a w, Till st C (l.setIfInBounds i true) w → anyL P md ops Q (Till st C) n (l.setIfInBounds i true) a w → K' a w) → if Region.wanted oi (yielded ops a.tmps) = true then Oper.wp P oi a w K' Q else K' (a.put oi.dst undef) w) :
    anyL P md ops Q (Till st C) (n + 1) l a w :=
  anyL_ready hr (by simp) fun j hj => by
    obtain rfl : j = i := by simpa using hj
    exact wpOp_step hi (fun K' hK => h K' (fun a w hS hW => hK a w ⟨hS, hW⟩))
end
end Go.Proofs.Ytnhifinfjfpoiaa
