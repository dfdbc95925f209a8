/- Sets of houses as masks: six bits. Contracts of the reference's small functions: goes, house, asked, full, Full. Contract of rat.opened: a colony at work, or its error. Contracts of rat's small functions over a colony at work: house, night, full, asked, Full. -/
import Derived.Test.YtnhifinfjfpoiaaJ02
namespace Go.Proofs.Ytnhifinfjfpoiaa
open Go.RowKit
set_option linter.unusedVariables false

/-- The number whose bits below 6 are those of which p says yes. -/
def maskOf (p : Nat → Bool) : Nat := (if p 0 then 1 else 0) + (if p 1 then 2 else 0) + (if p 2 then 4 else 0) + (if p 3 then 8 else 0) + (if p 4 then 16 else 0) + (if p 5 then 32 else 0)
theorem maskOf_lt (p : Nat → Bool) : maskOf p < 64 := by
  unfold maskOf
  cases p 0 <;> cases p 1 <;> cases p 2 <;> cases p 3 <;> cases p 4 <;> cases p 5 <;> decide
theorem bits6 : ∀ a b c d e f : Bool, ∀ o : Fin 6,
    ((if a then 1 else 0) + (if b then 2 else 0) + (if c then 4 else 0) + (if d then 8 else 0) + (if e then 16 else 0) + (if f then 32 else 0) : Nat).testBit o.val = [a, b, c, d, e, f].getD o.val false := by decide +kernel
theorem maskOf_bit (p : Nat → Bool) (o : Nat) (h : o < 6) : (maskOf p).testBit o = p o := by
  have := bits6 (p 0) (p 1) (p 2) (p 3) (p 4) (p 5) ⟨o, h⟩
  unfold maskOf
  rw [this]
  match o, h with
  | 0, _ => rfl
  | 1, _ => rfl
  | 2, _ => rfl
  | 3, _ => rfl
  | 4, _ => rfl
  | 5, _ => rfl
theorem mask_ext {a b : Nat} (ha : a < 64) (hb : b < 64) (h : ∀ o, o < 6 → a.testBit o = b.testBit o) : a = b := by
  refine Nat.eq_of_testBit_eq fun o => ?_
  by_cases ho : o < 6
  · exact h o ho
  · have h64 : (64 : Nat) ≤ 2 ^ o := by
      have : 2 ^ 6 ≤ 2 ^ o := Nat.pow_le_pow_right (by decide) (by omega)
      exact this
    rw [Nat.testBit_lt_two_pow (by omega), Nat.testBit_lt_two_pow (by omega)]
theorem maskOf_of (m : Nat) (h : m < 64) : maskOf m.testBit = m := mask_ext (maskOf_lt _) h fun o ho => maskOf_bit _ o ho
theorem maskOf_congr {p q : Nat → Bool} (h : ∀ o, o < 6 → p o = q o) : maskOf p = maskOf q :=
  mask_ext (maskOf_lt _) (maskOf_lt _) fun o ho => by rw [maskOf_bit _ o ho, maskOf_bit _ o ho, h o ho]
theorem or_lt {a b : Nat} (ha : a < 64) (hb : b < 64) : a ||| b < 64 := Nat.or_lt_two_pow (n := 6) ha hb
theorem bits_or_fin : ∀ a b : Fin 64, bits BinOp.or IntKind.i64 (a.val : Int) (b.val : Int) = ((a.val ||| b.val : Nat) : Int) := by decide +kernel
theorem bits_or {a b : Nat} (ha : a < 64) (hb : b < 64) : bits BinOp.or IntKind.i64 (a : Int) (b : Int) = ((a ||| b : Nat) : Int) := bits_or_fin ⟨a, ha⟩ ⟨b, hb⟩
theorem bits_and_fin : ∀ a b : Fin 64, bits BinOp.and IntKind.i64 (a.val : Int) (b.val : Int) = ((a.val &&& b.val : Nat) : Int) := by decide +kernel
theorem bits_and {a b : Nat} (ha : a < 64) (hb : b < 64) : bits BinOp.and IntKind.i64 (a : Int) (b : Int) = ((a &&& b : Nat) : Int) := bits_and_fin ⟨a, ha⟩ ⟨b, hb⟩
theorem pow_lt {h : Nat} (hh : h < 6) : 2 ^ h < 64 := Nat.lt_of_lt_of_le (Nat.pow_lt_pow_right (by decide) hh) (by decide)

/-- The set of one house; the union of two sets: behind names, so that the walk's simp leaves them alone. -/
def pw (k : Nat) : Nat := 2 ^ k
def orN (a b : Nat) : Nat := a ||| b
theorem pw_lt {h : Nat} (hh : h < 6) : pw h < 64 := pow_lt hh
theorem orN_lt {a b : Nat} (ha : a < 64) (hb : b < 64) : orN a b < 64 := or_lt ha hb
theorem pw_bit (k o : Nat) : (pw k).testBit o = (k == o) := by
  unfold pw
  rw [Nat.testBit_two_pow, Bool.eq_iff_iff]
  simp
theorem orN_bit (a b o : Nat) : (orN a b).testBit o = (a.testBit o || b.testBit o) := Nat.testBit_or a b o
theorem bits_orN {a b : Nat} (ha : a < 64) (hb : b < 64) : bits BinOp.or IntKind.i64 (a : Int) (b : Int) = (orN a b : Int) := bits_or ha hb
theorem wrap_pw {k : Nat} (h : k < 6) : IntKind.i64.wrap ((2 : Int) ^ k) = (pw k : Int) := by
  match k, h with
  | 0, _ => rfl
  | 1, _ => rfl
  | 2, _ => rfl
  | 3, _ => rfl
  | 4, _ => rfl
  | 5, _ => rfl

/-- The houses to which one gets from a house in a night, as the reference says it. -/
def goesI (c : Col) (a b : Int) : Bool := anyB (fun i => joinsB (nthP c.runs i) a b) c.runs.length || a == b
def goesB (c : Col) (a b : Nat) : Bool := goesI c a b
def nearC (c : Col) (h : Nat) : Nat := if h < c.rooms.length then maskOf (goesB c h) else 0
theorem nearC_lt (c : Col) (h : Nat) : nearC c h < 64 := by unfold nearC; split; exact maskOf_lt _; decide
/-- A colony at work: a block of ten cells. -/
def DeskAt (w : World) (p : Nat) (r t u n : Value) (c : Col) : Prop :=
  Box4 w p r t u n ∧ ∀ h, h < 6 → w.cell? ⟨p, 4 + h, none⟩ = some (.int .i64 (nearC c h))
theorem DeskAt.below {w w' : World} {p B : Nat} {r t u n : Value} {c : Col} (h : DeskAt w p r t u n c) (hb : Below B w w') (hB : p < B) : DeskAt w' p r t u n c :=
  ⟨h.1.below hb hB, fun o ho => (hb.cell (p := ⟨p, 4 + o, none⟩) hB).trans (h.2 o ho)⟩
end Go.Proofs.Ytnhifinfjfpoiaa

namespace Go.Proofs.Ytnhifinfjfpoiaa
open Go.RowKit
set_option linter.unusedVariables false

theorem anyB_true {p : Nat → Bool} {n i : Nat} (h : i < n) (hp : p i = true) : anyB p n = true := by
  unfold anyB; rw [List.any_eq_true]; exact ⟨i, List.mem_range.2 h, hp⟩
theorem anyB_false {p : Nat → Bool} {n : Nat} (h : ∀ i, i < n → p i = false) : anyB p n = false := by
  unfold anyB; rw [List.any_eq_false]; intro i hi; rw [h i (List.mem_range.1 hi)]; simp

set_option maxHeartbeats 1000000 in
theorem goes_any (c : Col) (r t u n : Value) (a b : Int) (w : World) (h : ColAt w w.heap.size r t u n c) :
    Calls Try.prog 104 #[.agg #[r, t, u, n], .int .i64 a, .int .i64 b] w fun e w' => e = .returned (.bool (goesI c a b)) ∧ Below w.heap.size w w' := by
  obtain ⟨hr, ht, hu, hn⟩ := h
  obtain ⟨ar, cr, rfl, _, _, _⟩ := hr.open
  obtain ⟨at_, ct, rfl, _, _, _⟩ := ht.open
  obtain ⟨au, cu, rfl, u1, u2, u3⟩ := hu.open
  obtain ⟨an, cn, rfl, _, _, _⟩ := hn.open
  have U3 := Lib.hid u3
  have hBW := (Below.refl w.heap.size w).alloc (Nat.le_refl _) (.cells #[.slice ar c.rooms.length cr, .slice at_ c.traps.length ct, .slice au c.runs.length cu, .slice an c.nights.length cn] 32)
  have HB := Lib.hid hBW
  have HBX := Lib.hid (Box4.new w (.slice ar c.rooms.length cr) (.slice at_ c.traps.length ct) (.slice au c.runs.length cu) (.slice an c.nights.length cn) 32)
  clear hr ht hu hn hBW u3
  go_enter Try.func104, Try.ntmps104
  go_wp2_with fail
  obtain ⟨W1, hW1⟩ : ∃ W1, w.alloc (.cells #[.slice ar c.rooms.length cr, .slice at_ c.traps.length ct, .slice au c.runs.length cu, .slice an c.nights.length cn] 32) = W1 := ⟨_, rfl⟩
  have hz1 : w.heap.size + 1 = W1.heap.size := by rw [← hW1]; simp
  rw [hW1] at HB HBX ⊢
  have HZ := Lib.hid hz1
  clear hW1 hz1
  go_loopw [7] (fun i wr => ∃ k : Nat, k ≤ c.runs.length ∧ i = .int .i64 k ∧ Hid (∀ j, j < k → joinsB (nthP c.runs j) a b = false) ∧ Below (w.heap.size + 1) W1 wr) (fun i _ => c.runs.length - (intOf i).toNat)
  case atStart => exact ⟨0, Nat.zero_le _, rfl, fun j hj => by omega, Below.refl _ _⟩
  case round =>
    obtain ⟨k, hk, rfl, hdone, hbr⟩ := hrel
    have HBR := Lib.hid hbr
    obtain ⟨c0, c1, c2, c3⟩ := HBX.out.below hbr (Nat.lt_succ_self _)
    have hW := HB.out.trans (hbr.mono (Nat.le_succ _))
    have HW := Lib.hid hW; clear hbr hW
    by_cases hlt : k < c.runs.length
    · obtain ⟨b0, off, rfl, hbl, hcA, hcB⟩ := U3.out k hlt
      have hc1 : wr.cell? ⟨b0, off + k * 2, none⟩ = some (.int .i64 (nthP c.runs k).1) := (HW.out.cell (p := ⟨b0, off + k * 2, none⟩) hbl).trans hcA
      have hc2 : wr.cell? ⟨b0, off + k * 2 + 1, none⟩ = some (.int .i64 (nthP c.runs k).2) := (HW.out.cell (p := ⟨b0, off + k * 2 + 1, none⟩) hbl).trans hcB
      clear hcA hcB
      have hsz := HW.out.size
      cases hg : joinsB (nthP c.runs k) a b
      · go_wp2_with (go_at_call 88; refine (joins_as hg _).mono ?_; rintro e w2 ⟨rfl, hb2⟩)
        go_roundw
        case rel => exact ⟨k + 1, by omega, by go_num, fun h hh => by rcases Nat.lt_succ_iff_lt_or_eq.1 hh with q | q; exact hdone.out h q; rw [q]; exact hg, HBR.out.trans (hb2.mono (by have := HBR.out.size; have := HZ.out; omega))⟩
        case measure => simp [intOf]; omega
      · go_wp2_with (go_at_call 88; refine (joins_as hg _).mono ?_; rintro e w2 ⟨rfl, hb2⟩)
        go_ret
        exact ⟨ret_bool (by unfold goesI; rw [anyB_true hlt hg]; rfl), HW.out.trans (hb2.mono hsz)⟩
    · go_wp2_with fail
      go_ret
      exact ⟨ret_bool (by unfold goesI; rw [anyB_false (fun i hi => hdone.out i (by omega))]; simp), HW.out⟩

/-- Is the house there, the night? -/
def houseErr (c : Col) (h : Int) : Int := if checkC c = 0 then (if inB h 0 (c.rooms.length - 1) then 0 else 2) else checkC c
def askedErr (c : Col) (h n : Int) : Int := if checkC c = 0 then (if inB h 0 (c.rooms.length - 1) && inB n 0 (c.nights.length - 1) then 0 else 2) else checkC c

theorem rhouse_any (c : Col) (r t u n : Value) (h : Int) (w : World) (hc : ColAt w w.heap.size r t u n c) :
    Calls Try.prog 139 #[.agg #[r, t, u, n], .int .i64 h] w fun e w' => e = .returned (.int .i64 (houseErr c h)) ∧ Below w.heap.size w w' := by
  have hBW := (Below.refl w.heap.size w).alloc (Nat.le_refl _) (.cells #[r, t, u, n] 32)
  have HCK := Lib.hid (rcheck_any c r t u n _ ((hc.below hBW (Nat.le_refl _)).mono (by simp)))
  obtain ⟨hr, ht, hu, hn⟩ := hc
  obtain ⟨ar, cr, rfl, _, r2, _⟩ := hr.open
  obtain ⟨at_, ct, rfl, _, _, _⟩ := ht.open
  obtain ⟨au, cu, rfl, _, _, _⟩ := hu.open
  obtain ⟨an, cn, rfl, _, _, _⟩ := hn.open
  have HB := Lib.hid hBW
  clear hr ht hu hn hBW
  by_cases hk : checkC c = 0
  · rw [hk] at HCK
    have HK := Lib.hid hk; clear hk
    cases hg : inB h 0 (c.rooms.length - 1)
    all_goals
      go_enter Try.func139, Try.ntmps139
      go_wp2_with fail
      refine HCK.out.mono ?_
      rintro e w1 ⟨rfl, hb1⟩
      simp only [World.size_alloc] at hb1
      obtain ⟨c0, c1, c2, c3⟩ := box4 hb1
      have HB1 := Lib.hid hb1; clear hb1
    · go_wp2_with (go_at_call 87; refine (off_out hg _).mono ?_; rintro e w' ⟨rfl, rfl⟩)
      go_ret
      exact ⟨ret_int (by unfold houseErr; rw [if_pos HK.out, hg]; rfl), HB.out.trans (HB1.out.mono (by omega))⟩
    · go_wp2_with (go_at_call 87; refine (off_in hg _).mono ?_; rintro e w' ⟨rfl, rfl⟩)
      go_ret
      exact ⟨ret_int (by unfold houseErr; rw [if_pos HK.out, hg]; rfl), HB.out.trans (HB1.out.mono (by omega))⟩
  · have hk1 : (checkC c == 0) = false := by simpa using hk
    have hk2 : (checkC c != 0) = true := by simp [bne, hk1]
    have HK := Lib.hid hk; clear hk
    go_enter Try.func139, Try.ntmps139
    go_wp2_with fail
    refine HCK.out.mono ?_
    rintro e w1 ⟨rfl, hb1⟩
    go_wp2_with fail
    go_ret
    exact ⟨ret_int (by unfold houseErr; rw [if_neg HK.out]), HB.out.trans (hb1.mono (by simp))⟩

theorem rasked_any (c : Col) (r t u n : Value) (h m : Int) (w : World) (hc : ColAt w w.heap.size r t u n c) :
    Calls Try.prog 91 #[.agg #[r, t, u, n], .int .i64 h, .int .i64 m] w fun e w' => e = .returned (.int .i64 (askedErr c h m)) ∧ Below w.heap.size w w' := by
  have hBW := (Below.refl w.heap.size w).alloc (Nat.le_refl _) (.cells #[r, t, u, n] 32)
  have HCK := Lib.hid (rhouse_any c r t u n h _ ((hc.below hBW (Nat.le_refl _)).mono (by simp)))
  obtain ⟨hr, ht, hu, hn⟩ := hc
  obtain ⟨ar, cr, rfl, _, r2, _⟩ := hr.open
  obtain ⟨at_, ct, rfl, _, _, _⟩ := ht.open
  obtain ⟨au, cu, rfl, _, _, _⟩ := hu.open
  obtain ⟨an, cn, rfl, _, n2, _⟩ := hn.open
  have HB := Lib.hid hBW
  clear hr ht hu hn hBW
  by_cases hk : houseErr c h = 0
  · rw [hk] at HCK
    have hk0 : checkC c = 0 ∧ inB h 0 (c.rooms.length - 1) = true := by
      unfold houseErr at hk
      by_cases q : checkC c = 0
      · rw [if_pos q] at hk
        cases q2 : inB h 0 (c.rooms.length - 1)
        · rw [q2] at hk; cases hk
        · exact ⟨q, rfl⟩
      · rw [if_neg q] at hk; exact absurd hk q
    have HK := Lib.hid hk0; clear hk hk0
    cases hg : inB m 0 (c.nights.length - 1)
    all_goals
      go_enter Try.func91, Try.ntmps91
      go_wp2_with fail
      refine HCK.out.mono ?_
      rintro e w1 ⟨rfl, hb1⟩
      simp only [World.size_alloc] at hb1
      obtain ⟨c0, c1, c2, c3⟩ := box4 hb1
      have HB1 := Lib.hid hb1; clear hb1
    · go_wp2_with (go_at_call 87; refine (off_out hg _).mono ?_; rintro e w' ⟨rfl, rfl⟩)
      go_ret
      exact ⟨ret_int (by unfold askedErr; rw [if_pos HK.out.1, HK.out.2, hg]; rfl), HB.out.trans (HB1.out.mono (by omega))⟩
    · go_wp2_with (go_at_call 87; refine (off_in hg _).mono ?_; rintro e w' ⟨rfl, rfl⟩)
      go_ret
      exact ⟨ret_int (by unfold askedErr; rw [if_pos HK.out.1, HK.out.2, hg]; rfl), HB.out.trans (HB1.out.mono (by omega))⟩
  · have hk1 : (houseErr c h == 0) = false := by simpa using hk
    have hk2 : (houseErr c h != 0) = true := by simp [bne, hk1]
    have he : askedErr c h m = houseErr c h := by
      unfold houseErr at hk ⊢
      unfold askedErr
      by_cases q : checkC c = 0
      · rw [if_pos q] at hk
        rw [if_pos q, if_pos q]
        cases q2 : inB h 0 (c.rooms.length - 1)
        · rfl
        · rw [q2] at hk; exact absurd rfl hk
      · rw [if_neg q, if_neg q]
    have HK := Lib.hid he; clear hk he
    go_enter Try.func91, Try.ntmps91
    go_wp2_with fail
    refine HCK.out.mono ?_
    rintro e w1 ⟨rfl, hb1⟩
    go_wp2_with fail
    go_ret
    exact ⟨ret_int HK.out.symm, HB.out.trans (hb1.mono (by simp))⟩

/-- Is a house full in a night? -/
def fullB (c : Col) (h n : Nat) : Bool := nth (nthR c.nights n) h == nth c.traps h

theorem rfull_any (c : Col) (r t u n : Value) (h m : Nat) (w : World) (hc : ColAt w w.heap.size r t u n c) (hm : m < c.nights.length) (hh : h < (nthR c.nights m).length) (ht : h < c.traps.length) :
    Calls Try.prog 92 #[.agg #[r, t, u, n], .int .i64 h, .int .i64 m] w fun e w' => e = .returned (.bool (fullB c h m)) ∧ Below w.heap.size w w' := by
  have hBW := (Below.refl w.heap.size w).alloc (Nat.le_refl _) (.cells #[r, t, u, n] 32)
  obtain ⟨hr, htr, hu, hn⟩ := hc.below hBW (Nat.le_refl _)
  obtain ⟨ar, cr, rfl, _, r2, _⟩ := hr.open
  obtain ⟨at_, ct, rfl, _, t2, t3⟩ := htr.open
  obtain ⟨au, cu, rfl, _, _, _⟩ := hu.open
  obtain ⟨an, cn, rfl, _, n2, n3⟩ := hn.open
  obtain ⟨b, off, v, rfl, hbl, hcell, hrow⟩ := n3 m hm
  obtain ⟨ai, ci, rfl, i1, i2, i3⟩ := hrow.open
  obtain ⟨b2, off2, rfl, hbl2, hcell2⟩ := i3 h hh
  obtain ⟨b3, off3, rfl, hbl3, hcell3⟩ := t3 h ht
  have HB := Lib.hid hBW
  clear hr htr hu hn hBW hc n3 i3 t3 hrow
  go_enter Try.func92, Try.ntmps92
  go_wp2_with fail
  obtain ⟨W1, hW1⟩ : ∃ W1, w.alloc (.cells #[.slice ar c.rooms.length cr, .slice (some ⟨b3, off3, none⟩) c.traps.length ct, .slice au c.runs.length cu, .slice (some ⟨b, off, none⟩) c.nights.length cn] 32) = W1 := ⟨_, rfl⟩
  obtain ⟨c0, c1, c2, c3⟩ := Box4.new w (.slice ar c.rooms.length cr) (.slice (some ⟨b3, off3, none⟩) c.traps.length ct) (.slice au c.runs.length cu) (.slice (some ⟨b, off, none⟩) c.nights.length cn) 32
  rw [hW1] at HB hcell hcell2 hcell3 c0 c1 c2 c3 ⊢
  clear hW1
  go_quiet (fail)
  go_wp2_with fail
  go_ret
  exact ⟨rfl, HB.out.trans (below_drewN _ _)⟩
end Go.Proofs.Ytnhifinfjfpoiaa

namespace Go.Proofs.Ytnhifinfjfpoiaa
open Go.RowKit
set_option linter.unusedVariables false

def deskCells (r t u n : Value) (near : Nat → Nat) : Array Value :=
  #[r, t, u, n, .int .i64 (near 0), .int .i64 (near 1), .int .i64 (near 2), .int .i64 (near 3), .int .i64 (near 4), .int .i64 (near 5)]
theorem deskCells_set (r t u n : Value) (near : Nat → Nat) (h x : Nat) (hh : h < 6) :
    (deskCells r t u n near).setIfInBounds (4 + h) (.int .i64 x) = deskCells r t u n (fun j => if j = h then x else near j) := by
  match h, hh with
  | 0, _ => rfl
  | 1, _ => rfl
  | 2, _ => rfl
  | 3, _ => rfl
  | 4, _ => rfl
  | 5, _ => rfl
theorem deskCells_get (r t u n : Value) (near : Nat → Nat) (h : Nat) (hh : h < 6) : (deskCells r t u n near)[4 + h]? = some (.int .i64 (near h)) := by
  match h, hh with
  | 0, _ => rfl
  | 1, _ => rfl
  | 2, _ => rfl
  | 3, _ => rfl
  | 4, _ => rfl
  | 5, _ => rfl
/-- Block p is a desk, not frozen. -/
def DeskIs (w : World) (p : Nat) (r t u n : Value) (near : Nat → Nat) : Prop := w.heap[p]? = some (.cells (deskCells r t u n near) 139 (0, 0))
theorem DeskIs.box {w : World} {p : Nat} {r t u n : Value} {near : Nat → Nat} (h : DeskIs w p r t u n near) : Box4 w p r t u n :=
  ⟨cell_of_row w p 0 _ _ _ h, cell_of_row w p 1 _ _ _ h, cell_of_row w p 2 _ _ _ h, cell_of_row w p 3 _ _ _ h⟩
theorem DeskIs.near {w : World} {p : Nat} {r t u n : Value} {near : Nat → Nat} (h : DeskIs w p r t u n near) (o : Nat) (ho : o < 6) : w.cell? ⟨p, 4 + o, none⟩ = some (.int .i64 (near o)) :=
  (cell_of_row w p (4 + o) _ _ _ h).trans (deskCells_get r t u n near o ho)
theorem DeskIs.free {w : World} {p : Nat} {r t u n : Value} {near : Nat → Nat} (h : DeskIs w p r t u n near) (o : Nat) : w.frozen? ⟨p, o, none⟩ = false := frozen_of_row w p o _ _ h

/-- The houses next to a house by the first k runs. -/
def nearK (c : Col) (k h : Nat) : Nat := if h < c.rooms.length then maskOf (fun o => anyB (fun i => joinsB (nthP c.runs i) h o) k || (h : Int) == (o : Int)) else 0
theorem nearK_lt (c : Col) (k h : Nat) : nearK c k h < 64 := by unfold nearK; split; exact maskOf_lt _; decide
theorem nearK_all (c : Col) (h : Nat) : nearK c c.runs.length h = nearC c h := rfl
theorem nearK_zero (c : Col) (hc : c.rooms.length ≤ 6) (h : Nat) : nearK c 0 h = if h < c.rooms.length then pw h else 0 := by
  unfold nearK
  by_cases e : h < c.rooms.length
  · rw [if_pos e, if_pos e]
    refine mask_ext (maskOf_lt _) (pw_lt (by omega)) fun o ho => ?_
    rw [maskOf_bit _ o ho, pw_bit]
    rw [Bool.eq_iff_iff]
    simp [anyB]
    omega
  · rw [if_neg e, if_neg e]
theorem anyB_succ (p : Nat → Bool) (k : Nat) : anyB p (k + 1) = (anyB p k || p k) := by
  unfold anyB; rw [List.range_succ, List.any_append]; simp
theorem nearK_succ (c : Col) (hc : c.rooms.length ≤ 6) (k A B : Nat) (hA : (nthP c.runs k).1 = A) (hB : (nthP c.runs k).2 = B) (hAn : A < c.rooms.length) (hBn : B < c.rooms.length) (hne : A ≠ B) (h : Nat) :
    nearK c (k + 1) h = if h = B then orN (nearK c k B) (pw A) else if h = A then orN (nearK c k A) (pw B) else nearK c k h := by
  have key : ∀ o : Nat, o < 6 → joinsB (nthP c.runs k) h o = (decide (h = A) && decide (o = B) || decide (h = B) && decide (o = A)) := by
    intro o ho
    unfold joinsB
    rw [hA, hB, Bool.eq_iff_iff]
    simp
    omega
  by_cases e1 : h = B
  · subst e1
    rw [if_pos rfl]
    refine mask_ext (nearK_lt _ _ _) (orN_lt (nearK_lt _ _ _) (pw_lt (by omega))) fun o ho => ?_
    rw [orN_bit, pw_bit]
    unfold nearK
    rw [if_pos hBn, if_pos hBn, maskOf_bit _ o ho, maskOf_bit _ o ho, anyB_succ, key o ho]
    have : decide (h = A) = false := by simp; omega
    rw [this]
    rw [Bool.eq_iff_iff]
    simp
    by_cases e : o = A
    · simp [e]
    · have : ¬ A = o := fun h => e h.symm
      simp [e, this]
  · rw [if_neg e1]
    by_cases e2 : h = A
    · subst e2
      rw [if_pos rfl]
      refine mask_ext (nearK_lt _ _ _) (orN_lt (nearK_lt _ _ _) (pw_lt (by omega))) fun o ho => ?_
      rw [orN_bit, pw_bit]
      unfold nearK
      rw [if_pos hAn, if_pos hAn, maskOf_bit _ o ho, maskOf_bit _ o ho, anyB_succ, key o ho]
      have : decide (h = B) = false := by simp; omega
      rw [this]
      rw [Bool.eq_iff_iff]
      simp
      by_cases e : o = B
      · simp [e]
      · have : ¬ B = o := fun h => e h.symm
        simp [e, this]
    · rw [if_neg e2]
      refine mask_ext (nearK_lt _ _ _) (nearK_lt _ _ _) fun o ho => ?_
      unfold nearK
      by_cases e : h < c.rooms.length
      · rw [if_pos e, if_pos e, maskOf_bit _ o ho, maskOf_bit _ o ho, anyB_succ, key o ho]
        simp [e1, e2]
      · rw [if_neg e, if_neg e]

theorem opened_bad (c : Col) (r t u n : Value) (w : World) (h : ColAt w w.heap.size r t u n c) (hk : ¬ checkC c = 0) :
    Calls Try.prog 110 #[.agg #[r, t, u, n]] w fun e w' => e = .returned (.tuple #[.pointer none, .int .i64 (checkC c)]) ∧ Below w.heap.size w w' := by
  have hBW := (Below.refl w.heap.size w).alloc (Nat.le_refl _) (.cells #[r, t, u, n] 26)
  have HCK := Lib.hid (check_any c r t u n _ ((h.below hBW (Nat.le_refl _)).mono (by simp)))
  obtain ⟨hr, ht, hu, hn⟩ := h
  obtain ⟨ar, cr, rfl, _, _, _⟩ := hr.open
  obtain ⟨at_, ct, rfl, _, _, _⟩ := ht.open
  obtain ⟨au, cu, rfl, _, _, _⟩ := hu.open
  obtain ⟨an, cn, rfl, _, _, _⟩ := hn.open
  have HB := Lib.hid hBW
  have hk1 : (checkC c == 0) = false := by simpa using hk
  have hk2 : (checkC c != 0) = true := by simp [bne, hk1]
  clear hr ht hu hn hBW hk
  go_enter Try.func110, Try.ntmps110
  go_wp2_with fail
  refine HCK.out.mono ?_
  rintro e w1 ⟨rfl, hb1⟩
  go_wp2_with fail
  go_ret2
  exact ⟨rfl, HB.out.trans (hb1.mono (by simp))⟩

set_option maxHeartbeats 2000000 in
set_option maxRecDepth 100000 in
theorem opened_good (c : Col) (r t u n : Value) (w : World) (h : ColAt w w.heap.size r t u n c) (hk : checkC c = 0) :
    Calls Try.prog 110 #[.agg #[r, t, u, n]] w fun e w' => ∃ p, e = .returned (.tuple #[.pointer (some ⟨p, 0, none⟩), .int .i64 0]) ∧ Below w.heap.size w w' ∧ w.heap.size ≤ p ∧ p < w'.heap.size ∧ DeskAt w' p r t u n c := by
  have hBW := (Below.refl w.heap.size w).alloc (Nat.le_refl _) (.cells #[r, t, u, n] 26)
  have hck := check_any c r t u n _ ((h.below hBW (Nat.le_refl _)).mono (by simp))
  rw [hk] at hck
  have HCK := Lib.hid hck; clear hck
  have OK := okCol_of hk
  obtain ⟨o1, o2⟩ := OK.houses
  have orun := OK.runs
  have HOK := Lib.hid OK; clear OK
  obtain ⟨hr, ht, hu, hn⟩ := h
  obtain ⟨ar, cr, rfl, _, r2, _⟩ := hr.open
  obtain ⟨at_, ct, rfl, _, _, _⟩ := ht.open
  obtain ⟨au, cu, rfl, _, u2, u3⟩ := hu.open
  obtain ⟨an, cn, rfl, _, _, _⟩ := hn.open
  have U3 := Lib.hid u3
  have HB := Lib.hid hBW
  clear hr ht hu hn hBW hk u3
  go_enter Try.func110, Try.ntmps110
  go_wp2_with fail
  refine HCK.out.mono ?_
  rintro e w1 ⟨rfl, hb1⟩
  simp only [World.size_alloc] at hb1
  have hbx := box4 hb1
  have HBX : Hid (Box4 w1 w.heap.size (.slice ar c.rooms.length cr) (.slice at_ c.traps.length ct) (.slice au c.runs.length cu) (.slice an c.nights.length cn)) := hbx
  obtain ⟨c0, c1, c2, c3⟩ := hbx
  have hz1 : w.heap.size < w1.heap.size := by have := hb1.size; simp at this; omega
  have HB1 := Lib.hid (HB.out.trans (hb1.mono (by omega))); clear hb1
  go_wp2_with fail
  obtain ⟨W2, hW2⟩ : ∃ W2, w1.alloc (.cells #[.slice ar c.rooms.length cr, .slice at_ c.traps.length ct, .slice au c.runs.length cu, .slice an c.nights.length cn, .int .i64 0, .int .i64 0, .int .i64 0, .int .i64 0, .int .i64 0, .int .i64 0] 139) = W2 := ⟨_, rfl⟩
  have hD : DeskIs W2 w1.heap.size (.slice ar c.rooms.length cr) (.slice at_ c.traps.length ct) (.slice au c.runs.length cu) (.slice an c.nights.length cn) (fun _ => 0) := by
    rw [← hW2]; exact heap_alloc_new _ _
  have hb2 : Below w1.heap.size w1 W2 := by rw [← hW2]; exact (Below.refl _ _).alloc (Nat.le_refl _) _
  have HB2 := Lib.hid hb2; have HD := Lib.hid hD
  rw [hW2]
  clear hW2 hb2 hD c0 c1 c2 c3
  go_loopw [20] (fun i wr => ∃ k : Nat, k ≤ c.rooms.length ∧ i = .int .i64 k ∧ Hid (DeskIs wr w1.heap.size (.slice ar c.rooms.length cr) (.slice at_ c.traps.length ct) (.slice au c.runs.length cu) (.slice an c.nights.length cn) (fun j => if j < k then pw j else 0)) ∧ Below w1.heap.size w1 wr) (fun i _ => c.rooms.length - (intOf i).toNat)
  case atStart => exact ⟨0, Nat.zero_le _, rfl, HD.out, HB2.out⟩
  case round =>
    obtain ⟨k, hk, rfl, hdesk, hbr⟩ := hrel
    by_cases hlt : k < c.rooms.length
    · have hk6 : k < 6 := by omega
      have hk6i : (k : Int) < 6 := by omega
      have hwp := wrap_pw hk6
      have hfr := hdesk.out.free (4 + k)
      have hcl := hdesk.out.near k hk6
      go_wp2_with fail
      go_still_tail 7, (by kernel_rfl)
      change wpList _ _ _ _ _ wr.drew
      go_wp2_with fail
      have hd2 : DeskIs (wr.drew.setCell ⟨w1.heap.size, 4 + k, none⟩ (.int .i64 (pw k))) w1.heap.size (.slice ar c.rooms.length cr) (.slice at_ c.traps.length ct) (.slice au c.runs.length cu) (.slice an c.nights.length cn) (fun j => if j < k + 1 then pw j else 0) := by
        have := heap_setCell_same wr.drew w1.heap.size (4 + k) _ _ (.int .i64 (pw k)) hdesk.out
        unfold DeskIs
        rw [this, deskCells_set _ _ _ _ _ k (pw k) hk6]
        congr 3
        funext j
        by_cases e1 : j = k
        · subst e1; simp
        · by_cases e2 : j < k
          · simp [e1, e2, Nat.lt_succ_of_lt e2]
          · have : ¬ j < k + 1 := by omega
            simp [e1, e2, this]
      go_roundw
      case rel => exact ⟨k + 1, by omega, by go_num, hd2, (Below.drew hbr).setCell (by simp) _⟩
      case measure => simp [intOf]; omega
    · obtain ⟨c0, c1, c2, c3⟩ := HBX.out.below hbr hz1
      have hd1 : DeskIs wr w1.heap.size (.slice ar c.rooms.length cr) (.slice at_ c.traps.length ct) (.slice au c.runs.length cu) (.slice an c.nights.length cn) (nearK c 0) := by
        have e : (fun j => if j < k then pw j else 0) = nearK c 0 := funext fun j => by
          rw [nearK_zero c o2, show k = c.rooms.length from by omega]
        rw [← e]; exact hdesk.out
      have HD1 := Lib.hid hd1; have HBR := Lib.hid hbr
      clear hd1 hdesk hbr
      obtain ⟨wo, rfl⟩ : ∃ wo : World, wo = wr := ⟨_, rfl⟩
      go_wp2_with fail
      clear c0 c1 c2 c3
      go_loopw [34] (fun i wr => ∃ k : Nat, k ≤ c.runs.length ∧ i = .int .i64 k ∧ Hid (DeskIs wr w1.heap.size (.slice ar c.rooms.length cr) (.slice at_ c.traps.length ct) (.slice au c.runs.length cu) (.slice an c.nights.length cn) (nearK c k)) ∧ Below w1.heap.size w1 wr) (fun i _ => c.runs.length - (intOf i).toNat)
      case atStart => exact ⟨0, Nat.zero_le _, rfl, HD1.out, HBR.out⟩
      case round =>
        obtain ⟨k, hk, rfl, hdesk, hbr⟩ := hrel
        have HBR := Lib.hid hbr; clear hbr
        by_cases hlt : k < c.runs.length
        · obtain ⟨b, off, rfl, hbl, hcA, hcB⟩ := U3.out k hlt
          have hrun := HOK.out.run k hlt
          have hdif := HOK.out.differ k hlt
          obtain ⟨A, hA⟩ : ∃ A : Nat, (nthP c.runs k).1 = A := ⟨(nthP c.runs k).1.toNat, by omega⟩
          obtain ⟨B, hB⟩ : ∃ B : Nat, (nthP c.runs k).2 = B := ⟨(nthP c.runs k).2.toNat, by omega⟩
          have hs := nearK_succ c o2 k A B hA hB (by omega) (by omega) (by omega)
          have HS := Lib.hid hs; clear hs
          have hW : Below w.heap.size w wr := HB1.out.trans (HBR.out.mono (by omega))
          have hc1 : wr.cell? ⟨b, off + k * 2, none⟩ = some (.int .i64 A) := by rw [← hA]; exact (hW.cell (p := ⟨b, off + k * 2, none⟩) hbl).trans hcA
          have hc2 : wr.cell? ⟨b, off + k * 2 + 1, none⟩ = some (.int .i64 B) := by rw [← hB]; exact (hW.cell (p := ⟨b, off + k * 2 + 1, none⟩) hbl).trans hcB
          have hA6 : A < 6 := by omega
          have hB6 : B < 6 := by omega
          have hA6i : (A : Int) < 6 := by omega
          have hB6i : (B : Int) < 6 := by omega
          have hAB : A ≠ B := by omega
          have HAB := Lib.hid hAB
          have HW := Lib.hid hW
          clear hcA hcB hrun hdif hA hB hW hAB
          have hwA := wrap_pw hA6
          have hwB := wrap_pw hB6
          have hsz : w1.heap.size < wr.heap.size := lt_of_block hdesk.out
          have hdesk3 : DeskIs (wr.alloc (.cells #[.int .i64 A, .int .i64 B] 63)) w1.heap.size (.slice ar c.rooms.length cr) (.slice at_ c.traps.length ct) (.slice (some ⟨b, off, none⟩) c.runs.length cu) (.slice an c.nights.length cn) (nearK c k) := (((Below.refl wr.heap.size wr).alloc (Nat.le_refl _) _).block _ hsz).trans hdesk.out
          have hx1 : (wr.alloc (.cells #[.int .i64 A, .int .i64 B] 63)).cell? ⟨wr.heap.size, 0, none⟩ = some (.int .i64 A) := by simp [go_sem]
          have hx2 : (wr.alloc (.cells #[.int .i64 A, .int .i64 B] 63)).cell? ⟨wr.heap.size, 1, none⟩ = some (.int .i64 B) := by simp [go_sem]
          have hb3 : Below w1.heap.size w1 (wr.alloc (.cells #[.int .i64 A, .int .i64 B] 63)) := HBR.out.alloc (by omega) _
          have HX := Lib.hid (And.intro hdesk3 (And.intro hx1 (And.intro hx2 hb3)))
          clear hdesk3 hx1 hx2 hb3
          go_wp2_with fail
          obtain ⟨W3, hW3⟩ : ∃ W3, wr.alloc (.cells #[.int .i64 A, .int .i64 B] 63) = W3 := ⟨_, rfl⟩
          rw [hW3] at HX ⊢
          clear hW3 hc1 hc2
          obtain ⟨hd3, hx1, hx2, hb3⟩ := HX.out
          have hn1 := hd3.near A hA6
          have hf1 := hd3.free (4 + A)
          have ho1 := bits_orN (nearK_lt c k A) (pw_lt hB6)
          have hne : wr.heap.size ≠ w1.heap.size := by omega
          have hd4 : DeskIs ((W3.setCell ⟨w1.heap.size, 4 + A, none⟩ (.int .i64 (orN (nearK c k A) (pw B)))).drew) w1.heap.size (.slice ar c.rooms.length cr) (.slice at_ c.traps.length ct) (.slice (some ⟨b, off, none⟩) c.runs.length cu) (.slice an c.nights.length cn) (fun j => if j = A then orN (nearK c k A) (pw B) else nearK c k j) := by
            have := heap_setCell_same W3 w1.heap.size (4 + A) _ _ (.int .i64 (orN (nearK c k A) (pw B))) hd3
            unfold DeskIs
            rw [heap_drew, this, deskCells_set _ _ _ _ _ A _ hA6]
          have HD4 := Lib.hid hd4; clear hd4
          have hx1' : ((W3.setCell ⟨w1.heap.size, 4 + A, none⟩ (.int .i64 (orN (nearK c k A) (pw B)))).drew).cell? ⟨wr.heap.size, 0, none⟩ = some (.int .i64 A) := (World.cell?_of_block (w := W3) (heap_setCell_other W3 _ _ _ hne)).trans hx1
          have hx2' : ((W3.setCell ⟨w1.heap.size, 4 + A, none⟩ (.int .i64 (orN (nearK c k A) (pw B)))).drew).cell? ⟨wr.heap.size, 1, none⟩ = some (.int .i64 B) := (World.cell?_of_block (w := W3) (heap_setCell_other W3 _ _ _ hne)).trans hx2
          have hb4 : Below w1.heap.size w1 ((W3.setCell ⟨w1.heap.size, 4 + A, none⟩ (.int .i64 (orN (nearK c k A) (pw B)))).drew) := (hb3.setCell (by simp) _).drew
          have HX2 := Lib.hid (And.intro hx1' (And.intro hx2' hb4))
          clear hx1' hx2' hb4
          go_still_tail 14, (by kernel_rfl)
          change wpList _ _ _ _ _ W3.drew
          go_wp2_with fail
          obtain ⟨W4, hW4⟩ : ∃ W4, (W3.setCell ⟨w1.heap.size, 4 + A, none⟩ (.int .i64 (orN (nearK c k A) (pw B)))).drew = W4 := ⟨_, rfl⟩
          rw [hW4] at HD4 HX2 ⊢
          clear hW4 hd3 hx1 hx2 hb3 hn1 hf1 ho1
          obtain ⟨hx1, hx2, hb4⟩ := HX2.out
          have hn2 : W4.cell? ⟨w1.heap.size, 4 + B, none⟩ = some (.int .i64 (nearK c k B)) := by have := HD4.out.near B hB6; rw [if_neg (fun e => HAB.out e.symm)] at this; exact this
          have hf2 := HD4.out.free (4 + B)
          have ho2 := bits_orN (nearK_lt c k B) (pw_lt hA6)
          have hd5 : DeskIs ((W4.setCell ⟨w1.heap.size, 4 + B, none⟩ (.int .i64 (orN (nearK c k B) (pw A)))).drew) w1.heap.size (.slice ar c.rooms.length cr) (.slice at_ c.traps.length ct) (.slice (some ⟨b, off, none⟩) c.runs.length cu) (.slice an c.nights.length cn) (nearK c (k + 1)) := by
            have := heap_setCell_same W4 w1.heap.size (4 + B) _ _ (.int .i64 (orN (nearK c k B) (pw A))) HD4.out
            unfold DeskIs
            rw [heap_drew, this, deskCells_set _ _ _ _ _ B _ hB6]
            rw [show (fun j => if j = B then orN (nearK c k B) (pw A) else if j = A then orN (nearK c k A) (pw B) else nearK c k j) = nearK c (k + 1) from funext fun j => (HS.out j).symm]
          have hb5 : Below w1.heap.size w1 ((W4.setCell ⟨w1.heap.size, 4 + B, none⟩ (.int .i64 (orN (nearK c k B) (pw A)))).drew) := (hb4.setCell (by simp) _).drew
          have HD5 := Lib.hid (And.intro hd5 hb5); clear hd5 hb5 hb4
          go_still_tail 14, (by kernel_rfl)
          change wpList _ _ _ _ _ W4.drew
          go_wp2_with fail
          go_roundw
          case rel => exact ⟨k + 1, by omega, by go_num, HD5.out.1, HD5.out.2⟩
          case measure => simp [intOf]; omega
        · go_wp2_with fail
          go_ret2
          have e : nearK c k = nearK c c.runs.length := by rw [show k = c.runs.length from by omega]
          have hdn := hdesk.out
          rw [e] at hdn
          exact ⟨w1.heap.size, rfl, HB1.out.trans (HBR.out.mono (by omega)), by omega, lt_of_block hdesk.out, hdn.box, fun o ho => hdn.near o ho⟩
end Go.Proofs.Ytnhifinfjfpoiaa

namespace Go.Proofs.Ytnhifinfjfpoiaa
open Go.RowKit
set_option linter.unusedVariables false

/-- Block p is a right colony at work. -/
def Desk (w : World) (p : Nat) (c : Col) : Prop :=
  p < w.heap.size ∧ OkCol c ∧ ∃ r t u n, DeskAt w p r t u n c ∧ ColAt w w.heap.size r t u n c
theorem Desk.below {w w' : World} {p : Nat} {c : Col} (h : Desk w p c) (hb : Below w.heap.size w w') : Desk w' p c := by
  obtain ⟨hp, ok, r, t, u, n, hd, hc⟩ := h
  exact ⟨Nat.lt_of_lt_of_le hp hb.size, ok, r, t, u, n, hd.below hb hp, (hc.below hb (Nat.le_refl _)).mono hb.size⟩

/-- The desk opened: its fields written out. -/
theorem Desk.open {w : World} {p : Nat} {c : Col} (h : Desk w p c) :
    ∃ ar cr at_ ct au cu an cn, Box4 w p (.slice ar c.rooms.length cr) (.slice at_ c.traps.length ct) (.slice au c.runs.length cu) (.slice an c.nights.length cn) ∧
      (∀ h, h < 6 → w.cell? ⟨p, 4 + h, none⟩ = some (.int .i64 (nearC c h))) ∧ ColAt w w.heap.size (.slice ar c.rooms.length cr) (.slice at_ c.traps.length ct) (.slice au c.runs.length cu) (.slice an c.nights.length cn) c := by
  obtain ⟨hp, ok, r, t, u, n, hd, hc⟩ := h
  obtain ⟨hr, ht, hu, hn⟩ := hc
  have h1 := hr; have h2 := ht; have h3 := hu; have h4 := hn
  obtain ⟨ar, cr, rfl, _⟩ := h1.open
  obtain ⟨at_, ct, rfl, _⟩ := h2.open
  obtain ⟨au, cu, rfl, _⟩ := h3.open
  obtain ⟨an, cn, rfl, _⟩ := h4.open
  exact ⟨ar, cr, at_, ct, au, cu, an, cn, hd.1, hd.2, hr, ht, hu, hn⟩

theorem dhouse_any (c : Col) (p : Nat) (h : Int) (w : World) (hd : Desk w p c) : Calls Try.prog 111 #[.pointer (some ⟨p, 0, none⟩), .int .i64 h] w fun e w' => e = .returned (.bool (inB h 0 (c.rooms.length - 1))) ∧ w = w' := by
  have h6 := hd.2.1.houses
  obtain ⟨ar, cr, at_, ct, au, cu, an, cn, ⟨c0, c1, c2, c3⟩, _, _⟩ := hd.open
  clear hd
  go_enter Try.func111, Try.ntmps111
  go_wp2_with (go_at_call 78; refine (in_any _ _ _ _).mono ?_; rintro e w' ⟨rfl, rfl⟩)
  go_ret
  exact ⟨rfl, rfl⟩
theorem dnight_any (c : Col) (p : Nat) (h : Int) (w : World) (hd : Desk w p c) : Calls Try.prog 138 #[.pointer (some ⟨p, 0, none⟩), .int .i64 h] w fun e w' => e = .returned (.bool (inB h 0 (c.nights.length - 1))) ∧ w = w' := by
  have h6 := hd.2.1.nights
  obtain ⟨ar, cr, at_, ct, au, cu, an, cn, ⟨c0, c1, c2, c3⟩, _, _⟩ := hd.open
  clear hd
  go_enter Try.func138, Try.ntmps138
  go_wp2_with (go_at_call 78; refine (in_any _ _ _ _).mono ?_; rintro e w' ⟨rfl, rfl⟩)
  go_ret
  exact ⟨rfl, rfl⟩

theorem dfull_any (c : Col) (p h m : Nat) (w : World) (hd : Desk w p c) (hh : h < c.rooms.length) (hm : m < c.nights.length) :
    Calls Try.prog 90 #[.pointer (some ⟨p, 0, none⟩), .int .i64 h, .int .i64 m] w fun e w' => e = .returned (.bool (fullB c h m)) ∧ ∃ k, w' = w.drewN k := by
  have hr := hd.2.1.row m hm
  have ht := hd.2.1.traps
  obtain ⟨h61, h62⟩ := hd.2.1.houses
  have h63 := hd.2.1.nights
  obtain ⟨ar, cr, at_, ct, au, cu, an, cn, ⟨c0, c1, c2, c3⟩, _, hcol⟩ := hd.open
  obtain ⟨a', c', e, _, _, t3⟩ := hcol.2.1.open
  obtain ⟨a'', c'', e', _, _, n3⟩ := hcol.2.2.2.open
  obtain ⟨b3, off3, rfl, hbl3, hcell3⟩ := t3 h (by omega)
  obtain ⟨b, off, v, rfl, hbl, hcell, hrow⟩ := n3 m hm
  obtain ⟨ai, ci, rfl, i1, i2, i3⟩ := hrow.open
  obtain ⟨b2, off2, rfl, hbl2, hcell2⟩ := i3 h (by omega)
  simp only [Value.slice.injEq, true_and] at e e'
  obtain ⟨rfl, rfl⟩ := e
  obtain ⟨rfl, rfl⟩ := e'
  exact fullD_any h m p none none _ _ _ _ _ _ _ _ _ _ _ _ _ _ w c1 c3 hcell hcell2 hcell3 hm (by omega) (by omega) (by omega) (by omega) (by omega)

theorem opened_ok (c : Col) (r t u n : Value) (w : World) (h : ColAt w w.heap.size r t u n c) (hk : checkC c = 0) :
    Calls Try.prog 110 #[.agg #[r, t, u, n]] w fun e w' => ∃ p, e = .returned (.tuple #[.pointer (some ⟨p, 0, none⟩), .int .i64 0]) ∧ Below w.heap.size w w' ∧ Desk w' p c :=
  (opened_good c r t u n w h hk).mono (by
    rintro e w' ⟨p, rfl, hb, h1, h2, h3⟩
    exact ⟨p, rfl, hb, h2, okCol_of hk, r, t, u, n, h3, (h.below hb (Nat.le_refl _)).mono hb.size⟩)

theorem asked_good (c : Col) (r t u n : Value) (h m : Int) (w : World) (hc : ColAt w w.heap.size r t u n c) (hk : askedErr c h m = 0) :
    Calls Try.prog 89 #[.agg #[r, t, u, n], .int .i64 h, .int .i64 m] w fun e w' => ∃ p, e = .returned (.tuple #[.pointer (some ⟨p, 0, none⟩), .int .i64 0]) ∧ Below w.heap.size w w' ∧ Desk w' p c := by
  have hk0 : checkC c = 0 ∧ inB h 0 (c.rooms.length - 1) = true ∧ inB m 0 (c.nights.length - 1) = true := by
    unfold askedErr at hk
    by_cases q : checkC c = 0
    · rw [if_pos q] at hk
      cases q2 : inB h 0 (c.rooms.length - 1) <;> cases q3 : inB m 0 (c.nights.length - 1) <;> simp [q2, q3] at hk
      exact ⟨q, rfl, rfl⟩
    · rw [if_neg q] at hk; exact absurd hk q
  obtain ⟨k0, k1, k2⟩ := hk0
  have hBW := (Below.refl w.heap.size w).alloc (Nat.le_refl _) (.cells #[r, t, u, n] 26)
  have HCK := Lib.hid (opened_ok c r t u n _ ((hc.below hBW (Nat.le_refl _)).mono (by simp)) k0)
  obtain ⟨hr, htr, hu, hn⟩ := hc
  obtain ⟨ar, cr, rfl, _⟩ := hr.open
  obtain ⟨at_, ct, rfl, _⟩ := htr.open
  obtain ⟨au, cu, rfl, _⟩ := hu.open
  obtain ⟨an, cn, rfl, _⟩ := hn.open
  have HB := Lib.hid hBW
  clear hr htr hu hn hBW k0 hk
  go_enter Try.func89, Try.ntmps89
  go_wp2_with fail
  refine HCK.out.mono ?_
  rintro e w1 ⟨p, rfl, hb1, hd⟩
  have HB1 := Lib.hid hb1; have HD := Lib.hid hd; clear hb1 hd
  go_wp2_with (first | (go_at_call 111; refine (dhouse_any c p _ _ HD.out).mono ?_; rintro e w' ⟨rfl, rfl⟩) | (go_at_call 138; refine (dnight_any c p _ _ HD.out).mono ?_; rintro e w' ⟨rfl, rfl⟩))
  go_ret2
  exact ⟨p, rfl, HB.out.trans (HB1.out.mono (by simp)), HD.out⟩

theorem asked_bad (c : Col) (r t u n : Value) (h m : Int) (w : World) (hc : ColAt w w.heap.size r t u n c) (hk : ¬ askedErr c h m = 0) :
    Calls Try.prog 89 #[.agg #[r, t, u, n], .int .i64 h, .int .i64 m] w fun e w' => e = .returned (.tuple #[.pointer none, .int .i64 (askedErr c h m)]) ∧ Below w.heap.size w w' := by
  have hBW := (Below.refl w.heap.size w).alloc (Nat.le_refl _) (.cells #[r, t, u, n] 26)
  have hcol := ((hc.below hBW (Nat.le_refl _)).mono (B' := (w.alloc (.cells #[r, t, u, n] 26)).heap.size) (by simp))
  have HC := Lib.hid hcol; clear hcol
  obtain ⟨hr, htr, hu, hn⟩ := hc
  obtain ⟨ar, cr, rfl, _⟩ := hr.open
  obtain ⟨at_, ct, rfl, _⟩ := htr.open
  obtain ⟨au, cu, rfl, _⟩ := hu.open
  obtain ⟨an, cn, rfl, _⟩ := hn.open
  have HB := Lib.hid hBW
  clear hr htr hu hn hBW
  by_cases q : checkC c = 0
  · have HCK := Lib.hid (opened_ok c _ _ _ _ _ HC.out q)
    have e : askedErr c h m = 2 ∧ (inB h 0 (c.rooms.length - 1) = false ∨ inB h 0 (c.rooms.length - 1) = true ∧ inB m 0 (c.nights.length - 1) = false) := by
      unfold askedErr at hk ⊢
      rw [if_pos q] at hk ⊢
      cases q2 : inB h 0 (c.rooms.length - 1) <;> cases q3 : inB m 0 (c.nights.length - 1) <;> simp [q2, q3] at hk ⊢
    obtain ⟨e, hcase⟩ := e
    rw [e]
    clear hk q e HC
    rcases hcase with k1 | ⟨k1, k2⟩
    all_goals
      go_enter Try.func89, Try.ntmps89
      go_wp2_with fail
      refine HCK.out.mono ?_
      rintro e w1 ⟨p, rfl, hb1, hd⟩
      have HB1 := Lib.hid hb1; have HD := Lib.hid hd; clear hb1 hd
      go_wp2_with (first | (go_at_call 111; refine (dhouse_any c p _ _ HD.out).mono ?_; rintro e w' ⟨rfl, rfl⟩) | (go_at_call 138; refine (dnight_any c p _ _ HD.out).mono ?_; rintro e w' ⟨rfl, rfl⟩))
      go_ret2
      exact ⟨rfl, HB.out.trans (HB1.out.mono (by simp))⟩
  · have HCK := Lib.hid (opened_bad c _ _ _ _ _ HC.out q)
    have e : askedErr c h m = checkC c := by unfold askedErr; rw [if_neg q]
    rw [e]
    have hk1 : (checkC c == 0) = false := by simpa using q
    have hk2 : (checkC c != 0) = true := by simp [bne, hk1]
    clear hk q e HC
    go_enter Try.func89, Try.ntmps89
    go_wp2_with fail
    refine HCK.out.mono ?_
    rintro e w1 ⟨rfl, hb1⟩
    go_wp2_with fail
    go_ret2
    exact ⟨rfl, HB.out.trans (hb1.mono (by simp))⟩

def fullV (c : Col) (h m : Int) : Bool := if askedErr c h m = 0 then fullB c h.toNat m.toNat else false
theorem asked_in {c : Col} {h m : Int} (hk : askedErr c h m = 0) : OkCol c ∧ ∃ H M : Nat, h = H ∧ m = M ∧ H < c.rooms.length ∧ M < c.nights.length := by
  unfold askedErr at hk
  by_cases q : checkC c = 0
  · rw [if_pos q] at hk
    cases q2 : inB h 0 (c.rooms.length - 1) <;> cases q3 : inB m 0 (c.nights.length - 1) <;> simp [q2, q3] at hk
    have a := inB_true q2; have b := inB_true q3
    exact ⟨okCol_of q, h.toNat, m.toNat, by omega, by omega, by omega, by omega⟩
  · rw [if_neg q] at hk; exact absurd hk q

theorem full_any (c : Col) (r t u n : Value) (h m : Int) (w : World) (hc : ColAt w w.heap.size r t u n c) :
    Calls Try.prog 22 #[.agg #[r, t, u, n], .int .i64 h, .int .i64 m] w fun e w' => e = .returned (.tuple #[.bool (fullV c h m), .int .i64 (askedErr c h m)]) ∧ Below w.heap.size w w' := by
  have hBW := (Below.refl w.heap.size w).alloc (Nat.le_refl _) (.cells #[r, t, u, n] 26)
  have hcol := ((hc.below hBW (Nat.le_refl _)).mono (B' := (w.alloc (.cells #[r, t, u, n] 26)).heap.size) (by simp))
  have HC := Lib.hid hcol; clear hcol
  obtain ⟨hr, htr, hu, hn⟩ := hc
  obtain ⟨ar, cr, rfl, _⟩ := hr.open
  obtain ⟨at_, ct, rfl, _⟩ := htr.open
  obtain ⟨au, cu, rfl, _⟩ := hu.open
  obtain ⟨an, cn, rfl, _⟩ := hn.open
  have HB := Lib.hid hBW
  clear hr htr hu hn hBW
  by_cases q : askedErr c h m = 0
  · have HCK := Lib.hid (asked_good c _ _ _ _ h m _ HC.out q)
    obtain ⟨ok, H, M, rfl, rfl, hH, hM⟩ := asked_in q
    have e : fullV c H M = fullB c H M := by unfold fullV; rw [if_pos q]; rfl
    rw [e, q]
    clear q e HC ok
    go_enter Try.func22, Try.ntmps22
    go_wp2_with fail
    refine HCK.out.mono ?_
    rintro e w1 ⟨p, rfl, hb1, hd⟩
    have HB1 := Lib.hid hb1; have HD := Lib.hid hd; clear hb1 hd
    go_wp2_with (go_at_call 90; refine (dfull_any c p H M _ HD.out hH hM).mono ?_; rintro e w' ⟨rfl, k, rfl⟩)
    go_ret2
    exact ⟨rfl, (HB.out.trans (HB1.out.mono (by simp))).trans (below_drewN _ _)⟩
  · have HCK := Lib.hid (asked_bad c _ _ _ _ h m _ HC.out q)
    have e : fullV c h m = false := by unfold fullV; rw [if_neg q]
    rw [e]
    have hk1 : (askedErr c h m == 0) = false := by simpa using q
    have hk2 : (askedErr c h m != 0) = true := by simp [bne, hk1]
    clear q e HC
    go_enter Try.func22, Try.ntmps22
    go_wp2_with fail
    refine HCK.out.mono ?_
    rintro e w1 ⟨rfl, hb1⟩
    go_wp2_with fail
    go_ret2
    exact ⟨rfl, HB.out.trans (hb1.mono (by simp))⟩

theorem rFull_any (c : Col) (r t u n : Value) (h m : Int) (w : World) (hc : ColAt w w.heap.size r t u n c) :
    Calls Try.prog 23 #[.agg #[r, t, u, n], .int .i64 h, .int .i64 m] w fun e w' => e = .returned (.tuple #[.bool (fullV c h m), .int .i64 (askedErr c h m)]) ∧ Below w.heap.size w w' := by
  have hBW := (Below.refl w.heap.size w).alloc (Nat.le_refl _) (.cells #[r, t, u, n] 32)
  have hcol := ((hc.below hBW (Nat.le_refl _)).mono (B' := (w.alloc (.cells #[r, t, u, n] 32)).heap.size) (by simp))
  have HC := Lib.hid hcol
  have HCK := Lib.hid (rasked_any c _ _ _ _ h m _ hcol)
  have HC0 := Lib.hid hc; clear hcol
  obtain ⟨hr, htr, hu, hn⟩ := hc
  obtain ⟨ar, cr, rfl, _⟩ := hr.open
  obtain ⟨at_, ct, rfl, _⟩ := htr.open
  obtain ⟨au, cu, rfl, _⟩ := hu.open
  obtain ⟨an, cn, rfl, _⟩ := hn.open
  have HB := Lib.hid hBW
  clear hr htr hu hn hBW
  by_cases q : askedErr c h m = 0
  · obtain ⟨ok, H, M, rfl, rfl, hH, hM⟩ := asked_in q
    have e : fullV c H M = fullB c H M := by unfold fullV; rw [if_pos q]; rfl
    rw [q] at HCK
    rw [e, q]
    have h1 := ok.row M hM
    have h2 := ok.traps
    have HH := Lib.hid (And.intro h1 h2)
    clear q e ok h1 h2
    go_enter Try.func23, Try.ntmps23
    go_wp2_with fail
    refine HCK.out.mono ?_
    rintro e w1 ⟨rfl, hb1⟩
    simp only [World.size_alloc] at hb1
    obtain ⟨c0, c1, c2, c3⟩ := box4 hb1
    have HB1 := Lib.hid (HB.out.trans (hb1.mono (by omega))); clear hb1
    go_wp2_with (go_at_call 92; refine (rfull_any c _ _ _ _ H M _ ((HC0.out.below HB1.out (Nat.le_refl _)).mono HB1.out.size) hM (by have := HH.out; omega) (by have := HH.out; omega)).mono ?_; rintro e w' ⟨rfl, hb2⟩)
    go_ret2
    exact ⟨rfl, HB1.out.trans (hb2.mono HB1.out.size)⟩
  · have e : fullV c h m = false := by unfold fullV; rw [if_neg q]
    rw [e]
    have hk1 : (askedErr c h m == 0) = false := by simpa using q
    have hk2 : (askedErr c h m != 0) = true := by simp [bne, hk1]
    clear q e HC
    go_enter Try.func23, Try.ntmps23
    go_wp2_with fail
    refine HCK.out.mono ?_
    rintro e w1 ⟨rfl, hb1⟩
    go_wp2_with fail
    go_ret2
    exact ⟨rfl, HB.out.trans (hb1.mono (by simp))⟩
end Go.Proofs.Ytnhifinfjfpoiaa
