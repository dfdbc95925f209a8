/- RatAfter holds: for every colony, percent and weeks the law answers true, and what came in reads as it read before. No condition is laid on the arguments beyond the form's own reach. -/
import Derived.Test.YtnhifinfjfpoiaaJ13
import Derived.Test.YtnhifinfjfpoiaaJ15
import Derived.Test.YtnhifinfjfpoiaaRows
import Derived.Test.YtnhifinfjfpoiaaJ12
namespace Go.Proofs.Ytnhifinfjfpoiaa
open Go.RowKit
set_option linter.unusedVariables false
set_option linter.unusedSimpArgs false

/-- What After, Need and Grow tell, of the program and of the reference alike. -/
def listV (c : Col) (l : List Int) : List Int := if fitErr c = 0 then l else []
theorem after_both (c : Col) (r t u n : Value) (w : World) (hc : ColAt w w.heap.size r t u n c) :
    (Calls Try.prog 28 #[.agg #[r, t, u, n]] w fun e w' => ∃ v, e = .returned (.tuple #[v, .int .i64 (fitErr c)]) ∧ IsInts w' w'.heap.size v (listV c (afterC c)) ∧ Below w.heap.size w w') ∧
    (Calls Try.prog 29 #[.agg #[r, t, u, n]] w fun e w' => ∃ v, e = .returned (.tuple #[v, .int .i64 (fitErr c)]) ∧ IsInts w' w'.heap.size v (listV c (afterC c)) ∧ Below w.heap.size w w') := by
  unfold listV
  by_cases q : fitErr c = 0
  · rw [if_pos q, q]
    exact ⟨After_ok c r t u n w hc q, rAfter_ok c r t u n w hc q⟩
  · rw [if_neg q]
    exact ⟨(After_bad c r t u n w hc q).mono fun _ w' ⟨h1, h2⟩ => ⟨_, h1, ints_nil w' _, h2⟩, (rAfter_bad c r t u n w hc q).mono fun _ w' ⟨h1, h2⟩ => ⟨_, h1, ints_nil w' _, h2⟩⟩
theorem need_both (c : Col) (r t u n : Value) (w : World) (hc : ColAt w w.heap.size r t u n c) :
    (Calls Try.prog 30 #[.agg #[r, t, u, n]] w fun e w' => ∃ v, e = .returned (.tuple #[v, .int .i64 (fitErr c)]) ∧ IsInts w' w'.heap.size v (listV c (needC c)) ∧ Below w.heap.size w w') ∧
    (Calls Try.prog 31 #[.agg #[r, t, u, n]] w fun e w' => ∃ v, e = .returned (.tuple #[v, .int .i64 (fitErr c)]) ∧ IsInts w' w'.heap.size v (listV c (needC c)) ∧ Below w.heap.size w w') := by
  unfold listV
  by_cases q : fitErr c = 0
  · rw [if_pos q, q]
    exact ⟨Need_ok c r t u n w hc q, rNeed_ok c r t u n w hc q⟩
  · rw [if_neg q]
    exact ⟨(Need_bad c r t u n w hc q).mono fun _ w' ⟨h1, h2⟩ => ⟨_, h1, ints_nil w' _, h2⟩, (rNeed_bad c r t u n w hc q).mono fun _ w' ⟨h1, h2⟩ => ⟨_, h1, ints_nil w' _, h2⟩⟩
def growV (c : Col) (p k : Int) : Int × Int := if growErr c p k = 0 then (0, growC c p k) else (0, 0)
theorem grow_both (c : Col) (r t u n : Value) (p k : Int) (w : World) (hc : ColAt w w.heap.size r t u n c) :
    (Calls Try.prog 32 #[.agg #[r, t, u, n], .int .i64 p, .int .i64 k] w fun e w' => e = .returned (.tuple #[.agg #[.int .i64 (growV c p k).1, .int .i64 (growV c p k).2], .int .i64 (growErr c p k)]) ∧ Below w.heap.size w w') ∧
    (Calls Try.prog 33 #[.agg #[r, t, u, n], .int .i64 p, .int .i64 k] w fun e w' => e = .returned (.tuple #[.agg #[.int .i64 (growV c p k).1, .int .i64 (growV c p k).2], .int .i64 (growErr c p k)]) ∧ Below w.heap.size w w') := by
  unfold growV
  by_cases q : growErr c p k = 0
  · rw [if_pos q, q]
    exact ⟨Grow_ok c r t u n p k w hc q, rGrow_ok c r t u n p k w hc q⟩
  · rw [if_neg q]
    exact ⟨Grow_bad c r t u n p k w hc q, rGrow_bad c r t u n p k w hc q⟩

set_option maxRecDepth 100000 in
set_option maxHeartbeats 8000000 in
theorem ratAfter_any (c : Col) (r t u n : Value) (pc wk : Int) (w : World) (hc : ColAt w w.heap.size r t u n c) :
    Calls Try.prog 4 #[.agg #[r, t, u, n], .int .i64 pc, .int .i64 wk] w fun e w' => e = .returned (.bool true) ∧ Below w.heap.size w w' := by
  have hBW : Below w.heap.size w (w.alloc (.cells #[r, t, u, n] 26)) := (Below.refl _ w).alloc (Nat.le_refl _) _
  have HLO := Lib.hid (long_any c r t u n _ (hc.on hBW))
  have HC := Lib.hid (hc.on hBW)
  have c0 : (w.alloc (.cells #[r, t, u, n] 26)).heap[w.heap.size]? = some (.cells #[r, t, u, n] 26 (0, 0)) := blk _ _ _ _ rfl
  obtain ⟨hr, htr, hu, hn⟩ := hc
  have HI := Lib.hid (And.intro hr (And.intro htr (And.intro hu hn)))
  obtain ⟨ar, cr, rfl, _⟩ := hr.open
  obtain ⟨at_, ct, rfl, _⟩ := htr.open
  obtain ⟨au, cu, rfl, _⟩ := hu.open
  obtain ⟨an, cn, rfl, _⟩ := hn.open
  have HB := Lib.hid hBW
  have HX := Lib.hid c0
  clear hr htr hu hn hBW c0
  cases hl : longB c
  case true =>
    rw [hl] at HLO
    clear hl
    go_enter Try.func4, Try.ntmps4
    go_wp2_with fail
    refine HLO.out.mono ?_
    rintro e w1 ⟨rfl, hb1⟩
    go_wp2_with fail
    refine (awake_any w1).mono ?_
    rintro e w2 ⟨rfl, hb2⟩
    go_wp2_with fail
    go_ret
    have h1 := HB.out.trans (hb1.mono (by simp))
    exact ⟨rfl, h1.trans (hb2.mono h1.size)⟩
  case false =>
    rw [hl] at HLO
    have HSH := Lib.hid (short_of hl HI.out.1.2 HI.out.2.1.2 HI.out.2.2.1.2 (rows_i64 HI.out.2.2.2))
    clear hl HI
    go_enter Try.func4, Try.ntmps4
    go_upto_region 3 with (go_at_call 16; refine HLO.out.mono ?_; rintro e W0 ⟨rfl, hb0⟩; have H0 := Lib.hid hb0; clear hb0)
    have b0 := blk_on HX.out H0.out
    have hlt := (Array.getElem?_eq_some_iff.1 b0).1
    have hS : BoxK W0 w.heap.size (.slice ar c.rooms.length cr) (.slice at_ c.traps.length ct) (.slice au c.runs.length cu) (.slice an c.nights.length cn) (W0.drewN 1) := BoxK.of b0 1
    have HLT := Lib.hid hlt
    have hcw : ∀ W, Hid (Below W0.heap.size W0 W) → ColAt W W.heap.size (.slice ar c.rooms.length cr) (.slice at_ c.traps.length ct) (.slice au c.runs.length cu) (.slice an c.nights.length cn) c := fun W hW => (HC.out.on H0.out).on hW.out
    have HOWN : Hid (∀ W, Hid (Below W0.heap.size W0 W) → Calls Try.prog 18 #[.agg #[.slice ar c.rooms.length cr, .slice at_ c.traps.length ct, .slice au c.runs.length cu, .slice an c.nights.length cn]] W fun e w' => ∃ r' t' u' n', e = .returned (.agg #[r', t', u', n']) ∧ OwnCol w' W.heap.size r' t' u' n' c ∧ Below W.heap.size W w' ∧ W0.heap.size ≤ W.heap.size) := fun W hW => (own_any c _ _ _ _ W (hcw W hW) HSH.out).mono fun _ _ ⟨a, b, d, e, h1, h2, h3⟩ => ⟨a, b, d, e, h1, h2, h3, hW.out.size⟩
    have HTHE : Hid (∀ W, Hid (Below W0.heap.size W0 W) → Calls Try.prog 19 #[.agg #[.slice ar c.rooms.length cr, .slice at_ c.traps.length ct, .slice au c.runs.length cu, .slice an c.nights.length cn]] W fun e w' => ∃ r' t' u' n', e = .returned (.agg #[r', t', u', n']) ∧ RefCol w' W.heap.size r' t' u' n' c ∧ Below W.heap.size W w' ∧ W0.heap.size ≤ W.heap.size) := fun W hW => (theirs_any c _ _ _ _ W (hcw W hW) HSH.out).mono fun _ _ ⟨a, b, d, e, h1, h2, h3⟩ => ⟨a, b, d, e, h1, h2, h3, hW.out.size⟩
    have hS' : W0.drew.cell? ⟨w.heap.size, 0, none⟩ = some (.slice ar c.rooms.length cr) ∧ W0.drew.cell? ⟨w.heap.size, 1, none⟩ = some (.slice at_ c.traps.length ct) ∧ W0.drew.cell? ⟨w.heap.size, 2, none⟩ = some (.slice au c.runs.length cu) ∧ W0.drew.cell? ⟨w.heap.size, 3, none⟩ = some (.slice an c.nights.length cn) ∧ Hid (Below W0.heap.size W0 W0.drew) := hS
    have HSS := Lib.hid hS'
    clear b0 hlt hS hcw
    have hsz0 : ∀ o, (W0.alloc o).drew.heap.size = W0.heap.size + 1 := fun o => World.size_alloc W0 o
    have hsz1 : ∀ o o2, ((W0.alloc o).alloc o2).drew.heap.size = W0.heap.size + 1 + 1 := fun o o2 => by rw [← World.size_alloc W0 o]; exact World.size_alloc (W0.alloc o) o2
    go_cut [7, 8] (fun s7 s8 wx => MidP W0 c s7 s8 wx)
    case first =>
      go_region_held3 (fun w' => w'.cell? ⟨w.heap.size, 0, none⟩ = some (.slice ar c.rooms.length cr) ∧ w'.cell? ⟨w.heap.size, 1, none⟩ = some (.slice at_ c.traps.length ct) ∧ w'.cell? ⟨w.heap.size, 2, none⟩ = some (.slice au c.runs.length cu) ∧ w'.cell? ⟨w.heap.size, 3, none⟩ = some (.slice an c.nights.length cn) ∧ Hid (Below W0.heap.size W0 w')) (first | with_reducible assumption | with_reducible exact BoxK.alloc HLT.out (BoxK.alloc HLT.out HS2.out) | with_reducible exact BoxK.alloc HLT.out HS2.out | with_reducible exact BoxK.alloc HLT.out (BoxK.store HLT.out (by first | omega | (simp; omega)) HS2.out) | with_reducible exact BoxK.store HLT.out (by first | omega | (simp; omega)) (BoxK.store HLT.out (by first | omega | (simp; omega)) HS2.out) | with_reducible exact BoxK.store HLT.out (by first | omega | (simp; omega)) HS2.out | with_reducible exact BoxK.below HLT.out (by assumption) (by assumption) | with_reducible exact BoxK.alloc HLT.out (BoxK.alloc HLT.out HS1.out) | with_reducible exact BoxK.alloc HLT.out HS1.out | with_reducible exact BoxK.allocD HLT.out (by assumption) | with_reducible exact BoxK.allocDD HLT.out (by assumption) | fail) (first | (go_at_call 18; (with_reducible refine (HOWN.out _ (by exact (by assumption : _ ∧ _ ∧ _ ∧ _ ∧ Hid _).2.2.2.2)).mono ?_); rintro e w1 ⟨r1, t1, u1, n1, rfl, hx1, hb1, hz1⟩; obtain ⟨a11, q11, a12, q12, a13, q13, a14, q14, rfl, rfl, rfl, rfl⟩ := hx1.slices; obtain ⟨hcb1, hfb1⟩ := bcell hb1; have m1 := hb1.size; (try rw [hsz0] at m1); (try rw [hsz1] at m1); (try have k1 : W0.heap.size < w1.heap.size := by omega); (try have j1 : W0.heap.size + 1 < w1.heap.size := by omega); have l1 : ∀ x, x < _ → x < w1.heap.size := fun x hx => Nat.lt_of_lt_of_le hx m1; have HX1 := Lib.hid hx1; have HS1 := Lib.hid (BoxK.below HLT.out hb1 (by assumption)); clear hx1) | (go_at_call 19; (with_reducible refine (HTHE.out _ (by exact (by assumption : _ ∧ _ ∧ _ ∧ _ ∧ Hid _).2.2.2.2)).mono ?_); rintro e w2 ⟨r2, t2, u2, n2, rfl, hx2, hb2, hz2⟩; obtain ⟨a21, q21, a22, q22, a23, q23, a24, q24, rfl, rfl, rfl, rfl⟩ := hx2.slices; obtain ⟨hcb2, hfb2⟩ := bcell hb2; have m2 := hb2.size; (try rw [hsz0] at m2); (try rw [hsz1] at m2); (try have k2 : W0.heap.size < w2.heap.size := by omega); (try have j2 : W0.heap.size + 1 < w2.heap.size := by omega); have l2 : ∀ x, x < _ → x < w2.heap.size := fun x hx => Nat.lt_of_lt_of_le hx m2; have HX2 := Lib.hid hx2; have HS2 := Lib.hid (BoxK.below HLT.out hb2 (by assumption)); clear hx2))
      all_goals
        have hB1 : Below W0.heap.size W0 w1 := HS1.out.2.2.2.2.out
        have hB2 : Below W0.heap.size W0 w2 := HS2.out.2.2.2.2.out
        have o1 := HX1.out.base hz1
        have o2 := HX2.out.base' hz2
        have o1b : OwnCol w2 W0.heap.size (.slice a11 c.rooms.length q11) (.slice a12 c.traps.length q12) (.slice a13 c.runs.length q13) (.slice a14 c.nights.length q14) c := by first | exact o1.below hb2 | exact o1.below (((Below.refl _ _).alloc (Nat.le_refl _) _).trans (hb2.mono (by simp))) | exact o1.below ((((Below.refl _ _).alloc (Nat.le_refl _) _).alloc (by simp) _).trans (hb2.mono (by simp; omega)))
        have n2 := hB2.size
        have n1 := hB1.size
        clear hcb1 hcb2 hfb1 hfb2 l1 l2 hB1
      · have HF := Lib.hid (leaf_aa o1b o2 hB2)
        clear o1 o2 o1b hB2 hb1 hb2 hz1 hz2
        go_wp2_with fail
        go_meet
        exact HF.out
      · have HF := Lib.hid (leaf_aa' o1b o2 hB2)
        clear o1 o2 o1b hB2 hb1 hb2 hz1 hz2
        go_wp2_with fail
        go_meet
        exact HF.out
      · have hp : w2.heap[w1.heap.size]? = some (.cells Z4 26 (0, 0)) := (by first | exact blk_on (heap_alloc_new _ _) hb2 | exact blk_on (keep _ (heap_alloc_new _ _)) hb2 | exact blk_on (blk _ _ _ _ (by simp)) hb2 | exact blk_on (blk_on (blkD _ _ _ _ rfl) hb1) hb2 | exact blk_on (keep _ (blk_on (blkD _ _ _ _ rfl) hb1)) hb2 | exact blk_on (blk_on (keepD _ (heap_alloc_new _ _)) hb1) hb2 | exact blk_on (blk_on (blkD _ _ _ _ (by simp)) hb1) hb2)
        have HF := Lib.hid (leaf_ba o1b o2 hB2 hp (by omega))
        clear o1 o2 o1b hB2 hb1 hb2 hz1 hz2 hp
        go_wp2_with fail
        go_meet
        exact HF.out
      · have hp : w2.heap[w1.heap.size]? = some (.cells Z4 26 (0, 0)) := (by first | exact blk_on (heap_alloc_new _ _) hb2 | exact blk_on (keep _ (heap_alloc_new _ _)) hb2 | exact blk_on (blk _ _ _ _ (by simp)) hb2 | exact blk_on (blk_on (blkD _ _ _ _ rfl) hb1) hb2 | exact blk_on (keep _ (blk_on (blkD _ _ _ _ rfl) hb1)) hb2 | exact blk_on (blk_on (keepD _ (heap_alloc_new _ _)) hb1) hb2 | exact blk_on (blk_on (blkD _ _ _ _ (by simp)) hb1) hb2)
        have hq : w2.heap[w1.heap.size + 1]? = some (.cells Z4 32 (0, 0)) := (by first | exact blk_on (heap_alloc_new _ _) hb2 | exact blk_on (keep _ (heap_alloc_new _ _)) hb2 | exact blk_on (blk _ _ _ _ (by simp)) hb2 | exact blk_on (blk_on (blkD _ _ _ _ rfl) hb1) hb2 | exact blk_on (keep _ (blk_on (blkD _ _ _ _ rfl) hb1)) hb2 | exact blk_on (blk_on (keepD _ (heap_alloc_new _ _)) hb1) hb2 | exact blk_on (blk_on (blkD _ _ _ _ (by simp)) hb1) hb2)
        have HF := Lib.hid (leaf_bb o1b o2 hB2 hp (by omega) hq (by omega))
        clear o1 o2 o1b hB2 hb1 hb2 hz1 hz2 hp hq
        go_wp2_with fail
        go_meet
        exact HF.out
      · have hq : w2.heap[w1.heap.size]? = some (.cells Z4 32 (0, 0)) := (by first | exact blk_on (heap_alloc_new _ _) hb2 | exact blk_on (keep _ (heap_alloc_new _ _)) hb2 | exact blk_on (blk _ _ _ _ (by simp)) hb2 | exact blk_on (blk_on (blkD _ _ _ _ rfl) hb1) hb2 | exact blk_on (keep _ (blk_on (blkD _ _ _ _ rfl) hb1)) hb2 | exact blk_on (blk_on (keepD _ (heap_alloc_new _ _)) hb1) hb2 | exact blk_on (blk_on (blkD _ _ _ _ (by simp)) hb1) hb2)
        have HF := Lib.hid (leaf_ab o1b o2 hB2 hq (by omega))
        clear o1 o2 o1b hB2 hb1 hb2 hz1 hz2 hq
        go_wp2_with fail
        go_meet
        exact HF.out
      · have hp : w2.heap[w1.heap.size + 1]? = some (.cells Z4 26 (0, 0)) := (by first | exact blk_on (heap_alloc_new _ _) hb2 | exact blk_on (keep _ (heap_alloc_new _ _)) hb2 | exact blk_on (blk _ _ _ _ (by simp)) hb2 | exact blk_on (blk_on (blkD _ _ _ _ rfl) hb1) hb2 | exact blk_on (keep _ (blk_on (blkD _ _ _ _ rfl) hb1)) hb2 | exact blk_on (blk_on (keepD _ (heap_alloc_new _ _)) hb1) hb2 | exact blk_on (blk_on (blkD _ _ _ _ (by simp)) hb1) hb2)
        have hq : w2.heap[w1.heap.size]? = some (.cells Z4 32 (0, 0)) := (by first | exact blk_on (heap_alloc_new _ _) hb2 | exact blk_on (keep _ (heap_alloc_new _ _)) hb2 | exact blk_on (blk _ _ _ _ (by simp)) hb2 | exact blk_on (blk_on (blkD _ _ _ _ rfl) hb1) hb2 | exact blk_on (keep _ (blk_on (blkD _ _ _ _ rfl) hb1)) hb2 | exact blk_on (blk_on (keepD _ (heap_alloc_new _ _)) hb1) hb2 | exact blk_on (blk_on (blkD _ _ _ _ (by simp)) hb1) hb2)
        have HF := Lib.hid (leaf_bb o1b o2 hB2 hp (by omega) hq (by omega))
        clear o1 o2 o1b hB2 hb1 hb2 hz1 hz2 hp hq
        go_wp2_with fail
        go_meet
        exact HF.out
      · have hp : w2.heap[W0.heap.size]? = some (.cells Z4 26 (0, 0)) := (by first | exact blk_on (heap_alloc_new _ _) hb2 | exact blk_on (keep _ (heap_alloc_new _ _)) hb2 | exact blk_on (blk _ _ _ _ (by simp)) hb2 | exact blk_on (blk_on (blkD _ _ _ _ rfl) hb1) hb2 | exact blk_on (keep _ (blk_on (blkD _ _ _ _ rfl) hb1)) hb2 | exact blk_on (blk_on (keepD _ (heap_alloc_new _ _)) hb1) hb2 | exact blk_on (blk_on (blkD _ _ _ _ (by simp)) hb1) hb2)
        have HF := Lib.hid (leaf_ba o1b o2 hB2 hp (by omega))
        clear o1 o2 o1b hB2 hb1 hb2 hz1 hz2 hp
        go_wp2_with fail
        go_meet
        exact HF.out
      · have hp : w2.heap[W0.heap.size]? = some (.cells Z4 26 (0, 0)) := (by first | exact blk_on (heap_alloc_new _ _) hb2 | exact blk_on (keep _ (heap_alloc_new _ _)) hb2 | exact blk_on (blk _ _ _ _ (by simp)) hb2 | exact blk_on (blk_on (blkD _ _ _ _ rfl) hb1) hb2 | exact blk_on (keep _ (blk_on (blkD _ _ _ _ rfl) hb1)) hb2 | exact blk_on (blk_on (keepD _ (heap_alloc_new _ _)) hb1) hb2 | exact blk_on (blk_on (blkD _ _ _ _ (by simp)) hb1) hb2)
        have hq : w2.heap[w1.heap.size]? = some (.cells Z4 32 (0, 0)) := (by first | exact blk_on (heap_alloc_new _ _) hb2 | exact blk_on (keep _ (heap_alloc_new _ _)) hb2 | exact blk_on (blk _ _ _ _ (by simp)) hb2 | exact blk_on (blk_on (blkD _ _ _ _ rfl) hb1) hb2 | exact blk_on (keep _ (blk_on (blkD _ _ _ _ rfl) hb1)) hb2 | exact blk_on (blk_on (keepD _ (heap_alloc_new _ _)) hb1) hb2 | exact blk_on (blk_on (blkD _ _ _ _ (by simp)) hb1) hb2)
        have HF := Lib.hid (leaf_bb o1b o2 hB2 hp (by omega) hq (by omega))
        clear o1 o2 o1b hB2 hb1 hb2 hz1 hz2 hp hq
        go_wp2_with fail
        go_meet
        exact HF.out
      · have hp : w2.heap[W0.heap.size]? = some (.cells Z4 26 (0, 0)) := (by first | exact blk_on (heap_alloc_new _ _) hb2 | exact blk_on (keep _ (heap_alloc_new _ _)) hb2 | exact blk_on (blk _ _ _ _ (by simp)) hb2 | exact blk_on (blk_on (blkD _ _ _ _ rfl) hb1) hb2 | exact blk_on (keep _ (blk_on (blkD _ _ _ _ rfl) hb1)) hb2 | exact blk_on (blk_on (keepD _ (heap_alloc_new _ _)) hb1) hb2 | exact blk_on (blk_on (blkD _ _ _ _ (by simp)) hb1) hb2)
        have hq : w2.heap[W0.heap.size + 1]? = some (.cells Z4 32 (0, 0)) := (by first | exact blk_on (heap_alloc_new _ _) hb2 | exact blk_on (keep _ (heap_alloc_new _ _)) hb2 | exact blk_on (blk _ _ _ _ (by simp)) hb2 | exact blk_on (blk_on (blkD _ _ _ _ rfl) hb1) hb2 | exact blk_on (keep _ (blk_on (blkD _ _ _ _ rfl) hb1)) hb2 | exact blk_on (blk_on (keepD _ (heap_alloc_new _ _)) hb1) hb2 | exact blk_on (blk_on (blkD _ _ _ _ (by simp)) hb1) hb2)
        have HF := Lib.hid (leaf_bb o1b o2 hB2 hp (by omega) hq (by omega))
        clear o1 o2 o1b hB2 hb1 hb2 hz1 hz2 hp hq
        go_wp2_with fail
        go_meet
        exact HF.out
      · have hq : w2.heap[W0.heap.size]? = some (.cells Z4 32 (0, 0)) := (by first | exact blk_on (heap_alloc_new _ _) hb2 | exact blk_on (keep _ (heap_alloc_new _ _)) hb2 | exact blk_on (blk _ _ _ _ (by simp)) hb2 | exact blk_on (blk_on (blkD _ _ _ _ rfl) hb1) hb2 | exact blk_on (keep _ (blk_on (blkD _ _ _ _ rfl) hb1)) hb2 | exact blk_on (blk_on (keepD _ (heap_alloc_new _ _)) hb1) hb2 | exact blk_on (blk_on (blkD _ _ _ _ (by simp)) hb1) hb2)
        have HF := Lib.hid (leaf_ab o1b o2 hB2 hq (by omega))
        clear o1 o2 o1b hB2 hb1 hb2 hz1 hz2 hq
        go_wp2_with fail
        go_meet
        exact HF.out
      · have hp : w2.heap[w1.heap.size]? = some (.cells Z4 26 (0, 0)) := (by first | exact blk_on (heap_alloc_new _ _) hb2 | exact blk_on (keep _ (heap_alloc_new _ _)) hb2 | exact blk_on (blk _ _ _ _ (by simp)) hb2 | exact blk_on (blk_on (blkD _ _ _ _ rfl) hb1) hb2 | exact blk_on (keep _ (blk_on (blkD _ _ _ _ rfl) hb1)) hb2 | exact blk_on (blk_on (keepD _ (heap_alloc_new _ _)) hb1) hb2 | exact blk_on (blk_on (blkD _ _ _ _ (by simp)) hb1) hb2)
        have hq : w2.heap[W0.heap.size]? = some (.cells Z4 32 (0, 0)) := (by first | exact blk_on (heap_alloc_new _ _) hb2 | exact blk_on (keep _ (heap_alloc_new _ _)) hb2 | exact blk_on (blk _ _ _ _ (by simp)) hb2 | exact blk_on (blk_on (blkD _ _ _ _ rfl) hb1) hb2 | exact blk_on (keep _ (blk_on (blkD _ _ _ _ rfl) hb1)) hb2 | exact blk_on (blk_on (keepD _ (heap_alloc_new _ _)) hb1) hb2 | exact blk_on (blk_on (blkD _ _ _ _ (by simp)) hb1) hb2)
        have HF := Lib.hid (leaf_bb o1b o2 hB2 hp (by omega) hq (by omega))
        clear o1 o2 o1b hB2 hb1 hb2 hz1 hz2 hp hq
        go_wp2_with fail
        go_meet
        exact HF.out
      · have hp : w2.heap[W0.heap.size + 1]? = some (.cells Z4 26 (0, 0)) := (by first | exact blk_on (heap_alloc_new _ _) hb2 | exact blk_on (keep _ (heap_alloc_new _ _)) hb2 | exact blk_on (blk _ _ _ _ (by simp)) hb2 | exact blk_on (blk_on (blkD _ _ _ _ rfl) hb1) hb2 | exact blk_on (keep _ (blk_on (blkD _ _ _ _ rfl) hb1)) hb2 | exact blk_on (blk_on (keepD _ (heap_alloc_new _ _)) hb1) hb2 | exact blk_on (blk_on (blkD _ _ _ _ (by simp)) hb1) hb2)
        have hq : w2.heap[W0.heap.size]? = some (.cells Z4 32 (0, 0)) := (by first | exact blk_on (heap_alloc_new _ _) hb2 | exact blk_on (keep _ (heap_alloc_new _ _)) hb2 | exact blk_on (blk _ _ _ _ (by simp)) hb2 | exact blk_on (blk_on (blkD _ _ _ _ rfl) hb1) hb2 | exact blk_on (keep _ (blk_on (blkD _ _ _ _ rfl) hb1)) hb2 | exact blk_on (blk_on (keepD _ (heap_alloc_new _ _)) hb1) hb2 | exact blk_on (blk_on (blkD _ _ _ _ (by simp)) hb1) hb2)
        have HF := Lib.hid (leaf_bb o1b o2 hB2 hp (by omega) hq (by omega))
        clear o1 o2 o1b hB2 hb1 hb2 hz1 hz2 hp hq
        go_wp2_with fail
        go_meet
        exact HF.out
    case rest =>
      obtain ⟨p, q, r1, t1, u1, n1, r2, t2, u2, n2, rfl, rfl, hp, hq, o1, o2, hB⟩ := hcut
      obtain ⟨a11, q11, a12, q12, a13, q13, a14, q14, rfl, rfl, rfl, rfl⟩ := o1.slices
      obtain ⟨a21, q21, a22, q22, a23, q23, a24, q24, rfl, rfl, rfl, rfl⟩ := o2.slices
      have hL : LawAt w wc p q (.slice ar c.rooms.length cr) (.slice at_ c.traps.length ct) (.slice au c.runs.length cu) (.slice an c.nights.length cn) _ _ _ _ _ _ _ _ c := ⟨hp, hq, blk_on (blk_on HX.out H0.out) hB, ((HC.out.on H0.out).on hB), o1.col HSH.out, o2.col HSH.out, HB.out.trans ((H0.out.trans (hB.mono H0.out.size)).mono HB.out.size)⟩
      have L0 := Lib.hid hL
      clear hp hq o1 o2 hB hL HOWN HTHE HSS HSH H0 HC HX HB HLO HLT hsz0 hsz1
      obtain ⟨x0, x1, x2, x3⟩ := four_cells L0.out.hp
      have HCON := Lib.hid ((after_both c _ _ _ _ wc L0.out.own).1)
      go_wp2_with fail
      refine HCON.out.mono ?_
      rintro e w1 ⟨v1, rfl, hv1, hb1⟩
      have L1 := Lib.hid (L0.out.on hb1)
      have HV1 := Lib.hid hv1
      clear hv1 hb1 L0 HCON x0 x1 x2 x3
      obtain ⟨x0, x1, x2, x3⟩ := four_cells L1.out.hq
      have HCON := Lib.hid ((after_both c _ _ _ _ w1 L1.out.ref).2)
      go_wp2_with fail
      refine HCON.out.mono ?_
      rintro e w2 ⟨v2, rfl, hv2, hb2⟩
      have L2 := Lib.hid (L1.out.on hb2)
      have hal := alike_any _ _ _ _ w2 (HV1.out.on hb2) hv2
      simp only [decide_true] at hal
      have HAL := Lib.hid hal
      clear hb2 L1 HCON x0 x1 x2 x3 hv2 hal HV1
      go_wp2_with fail
      refine HAL.out.mono ?_
      rintro e w2' ⟨rfl, rfl⟩
      clear HAL
      obtain ⟨x0, x1, x2, x3⟩ := four_cells L2.out.hp
      have HCON := Lib.hid ((need_both c _ _ _ _ w2 L2.out.own).1)
      go_wp2_with fail
      refine HCON.out.mono ?_
      rintro e w3 ⟨v3, rfl, hv3, hb3⟩
      have L3 := Lib.hid (L2.out.on hb3)
      have HV3 := Lib.hid hv3
      clear hv3 hb3 L2 HCON x0 x1 x2 x3
      obtain ⟨x0, x1, x2, x3⟩ := four_cells L3.out.hq
      have HCON := Lib.hid ((need_both c _ _ _ _ w3 L3.out.ref).2)
      go_wp2_with fail
      refine HCON.out.mono ?_
      rintro e w4 ⟨v4, rfl, hv4, hb4⟩
      have L4 := Lib.hid (L3.out.on hb4)
      have hal := alike_any _ _ _ _ w4 (HV3.out.on hb4) hv4
      simp only [decide_true] at hal
      have HAL := Lib.hid hal
      clear hb4 L3 HCON x0 x1 x2 x3 hv4 hal HV3
      go_wp2_with fail
      refine HAL.out.mono ?_
      rintro e w4' ⟨rfl, rfl⟩
      clear HAL
      obtain ⟨x0, x1, x2, x3⟩ := four_cells L4.out.hp
      have HCON := Lib.hid ((grow_both c _ _ _ _ pc wk w4 L4.out.own).1)
      go_wp2_with fail
      refine HCON.out.mono ?_
      rintro e w5 ⟨rfl, hb5⟩
      have L5 := Lib.hid (L4.out.on hb5)
      have L5a := Lib.hid (L5.out.on ((Below.refl w5.heap.size w5).alloc (Nat.le_refl _) (.cells #[.int .i64 (growV c pc wk).1, .int .i64 (growV c pc wk).2] 49)))
      clear hb5 L4 L5 HCON x0 x1 x2 x3
      obtain ⟨x0, x1, x2, x3⟩ := four_cells L5a.out.hq
      have HCON := Lib.hid ((grow_both c _ _ _ _ pc wk (w5.alloc (.cells #[.int .i64 (growV c pc wk).1, .int .i64 (growV c pc wk).2] 49)) L5a.out.ref).2)
      go_wp2_with fail
      refine HCON.out.mono ?_
      rintro e w6 ⟨rfl, hb6⟩
      have hb7 : Below (w5.alloc (.cells #[.int .i64 (growV c pc wk).1, .int .i64 (growV c pc wk).2] 49)).heap.size (w5.alloc (.cells #[.int .i64 (growV c pc wk).1, .int .i64 (growV c pc wk).2] 49)) (w6.alloc (.cells #[.int .i64 (growV c pc wk).1, .int .i64 (growV c pc wk).2] 49)) := hb6.alloc hb6.size _
      have L6 := Lib.hid (L5a.out.on hb7)
      have hs := blk_on (heap_alloc_new w5 (.cells #[.int .i64 (growV c pc wk).1, .int .i64 (growV c pc wk).2] 49)) hb7
      obtain ⟨s0, s1⟩ := (And.intro ((cell_of_row _ _ 0 _ _ _ hs).trans rfl) ((cell_of_row _ _ 1 _ _ _ hs).trans rfl) : _ ∧ _)
      clear hb6 hb7 hs L5a HCON x0 x1 x2 x3
      obtain ⟨x0, x1, x2, x3⟩ := four_cells L6.out.hp
      obtain ⟨y0, y1, y2, y3⟩ := four_cells L6.out.box
      have HSA := Lib.hid (same_any c _ _ _ _ _ _ _ _ _ L6.out.own L6.out.arg)
      go_wp2_with fail
      refine HSA.out.mono ?_
      rintro e w12 ⟨rfl, hb12⟩
      have L12 := Lib.hid (L6.out.below.trans (hb12.mono L6.out.below.size))
      clear hb12 L6 HSA x0 x1 x2 x3 y0 y1 y2 y3
      go_wp2_with fail
      refine (awake_any w12).mono ?_
      rintro e w13 ⟨rfl, hb13⟩
      have L13 := Lib.hid (L12.out.trans (hb13.mono L12.out.size))
      clear hb13 L12
      go_wp2_with fail
      go_ret
      exact ⟨rfl, L13.out⟩
end Go.Proofs.Ytnhifinfjfpoiaa

namespace Go.Proofs.Ytnhifinfjfpoiaa
open Go.RowKit Go.ChangeShapes Go.WideShapes Go.ChangeAt

theorem ownKnob_none : ownKnob Try.prog.godebug = none := by kernel_rfl
theorem laidOut_yes : laidOutB Try.prog = true := by kernel_rfl

set_option maxRecDepth 100000 in
theorem ratAfter_lifted (os : Os) (started : os.Started) (H : Type) (enc : TypeId × Value → H) :
    ReturnsInHanded {} Try.checked os 4 .any (Rows.ratAfterSpec.pre6 enc Try.prog Try.f4 Rows.ratAfterRow.domain false) (Rows.ratAfterSpec.post enc Try.prog Try.f4 false true false false) := by
  refine returnsInHanded_of_change_sized (C := Try.checked) ownKnob_none started (by kernel_rfl) Try.func4
    (ChangeSpec.witness6 (enc := enc) (C := Try.checked) false ⟨#[], #[.agg #[.slice none 0 0, .slice none 0 0, .slice none 0 0, .slice none 0 0], .int .i64 0, .int .i64 0], []⟩ 8 (by kernel_rfl) (by kernel_rfl) (by kernel_rfl) (by kernel_rfl)) ?_
  intro W base args ds gs before hval0 hW0 _ hsz0 _
  have hval : ∀ (j : Nat) t v, Try.f4.params[j]? = some t → args[j]? = some v → Value.okWide Try.prog W .any base t v := hval0
  have hsz : (DataW.weightsEach Try.prog (Try.f4.params.toList ++ Rows.ratAfterSpec.plain.varTypes Try.prog) (ds ++ gs)).all (· ≤ reachBytes) = true := hsz0
  have hW := hW0
  obtain ⟨p, q, hA0, hV, rfl, hfz, hnd⟩ := hW
  have hA : DataW.TrodAll enc Try.prog W 0 (fun _ => true) true Try.f4.params.toList args.toList ds p := hA0
  rw [Try.params4] at hA hval hsz
  obtain ⟨v0, v1, v2, d0, d1, d2, p0, p1, p2, rfl, rfl, rfl, h0, h1, h2⟩ := trodAll_three hA
  obtain ⟨rfl, rfl⟩ := trodVars_none hV
  obtain ⟨r, t, u, n, c, rfl, hc⟩ := open_col (hval 0 _ v0 rfl rfl) h0 (fun m hm => by
    have := List.all_eq_true.1 hsz m (DataW.weights_mem_each (j := 0) rfl rfl m hm)
    simpa using this)
  have k0 := h0
  have k1 := h1
  have k2 := h2
  obtain ⟨a, rfl, rfl, rfl, wa⟩ := open_int Try.underlying3 (hval 1 _ v1 rfl rfl) h1
  obtain ⟨b, rfl, rfl, rfl, wb⟩ := open_int Try.underlying3 (hval 2 _ v2 rfl rfl) h2
  refine (ratAfter_any c r t u n a b W hc).mono fun e W' ⟨he, hb⟩ => ?_
  subst he
  have hlt : ∀ x ∈ p0, x.block < W.heap.size := fun x hx => hW0.lt x (by simp [hx])
  have s0 := Below.trod laidOut_yes (by kernel_rfl) (of_decide_eq_true (by kernel_rfl)) k0 hb hlt
  exact ⟨_, rfl, _, _, _, [], _, _, hW0, trodAll_mk1 (shut_bool Try.underlying4 true), trodAll_mk3 s0 (shut_int Try.underlying3 wa) (shut_int Try.underlying3 wb), rfl, hb.frame _, fun h => by cases h⟩

theorem ratAfter_holds : Rows.RatAfterSaid :=
  OpenClaim.holds_of_wide 4 Try.f4 rfl rfl rfl rfl rfl rfl rfl ⟨rfl, rfl, rfl, rfl, rfl⟩ rfl rfl rfl rfl rfl (by kernel_rfl) Try.func4 (by kernel_rfl)
    (of_decide_eq_true (by kernel_rfl)) (by unfold Func.isWrapper; first | (rw [if_pos (by decide +kernel)]; kernel_rfl) | (rw [if_neg (by decide +kernel)]; exact ⟨rfl, rfl⟩))
    (fun os started H enc _ => ratAfter_lifted os started H enc)
end Go.Proofs.Ytnhifinfjfpoiaa
