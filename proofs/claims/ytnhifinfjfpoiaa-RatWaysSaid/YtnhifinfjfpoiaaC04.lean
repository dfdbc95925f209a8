/- RatWays holds: for every colony, houses, night and way the law answers true, and what came in reads as it read before. No condition is laid on the arguments beyond the form's own reach. -/
import Derived.Test.YtnhifinfjfpoiaaJ16
import Derived.Test.YtnhifinfjfpoiaaJ17
import Derived.Test.YtnhifinfjfpoiaaRows
namespace Go.Proofs.Ytnhifinfjfpoiaa
open Go.RowKit
set_option linter.unusedVariables false
set_option linter.unusedSimpArgs false

theorem gone_both (c : Col) (r t u n wv : Value) (way : List Int) (w : World) (hc : ColAt w w.heap.size r t u n c) (hw : IsInts w w.heap.size wv way) :
    Calls Try.prog 58 #[.agg #[r, t, u, n], wv] w fun e w' => e = .returned (.tuple #[.bool (goneV c way), .int .i64 (goneErr c way)]) ∧ Below w.heap.size w w' := by
  by_cases q : goneErr c way = 0
  · have e : goneV c way = goneB c way := by unfold goneV; rw [if_pos q]
    rw [e, q]
    exact Gone_good c r t u n wv way w hc hw q
  · have e : goneV c way = false := by unfold goneV; rw [if_neg q]
    rw [e]
    exact Gone_bad c r t u n wv way w hc hw q
set_option maxRecDepth 100000 in
set_option maxHeartbeats 8000000 in
theorem ratWays_any (c : Col) (r t u n : Value) (f h m : Int) (hv : Value) (l : List Int) (w : World) (hc : ColAt w w.heap.size r t u n c) (hh : IsInts w w.heap.size hv l) :
    Calls Try.prog 12 #[.agg #[r, t, u, n], .int .i64 f, .int .i64 h, .int .i64 m, hv] w fun e w' => e = .returned (.bool true) ∧ Below w.heap.size w w' := by
  have hBW : Below w.heap.size w (w.alloc (.cells #[r, t, u, n] 26)) := (Below.refl _ w).alloc (Nat.le_refl _) _
  have HLO := Lib.hid (long_any c r t u n _ (hc.on hBW))
  have HC := Lib.hid (hc.on hBW)
  have HLL := Lib.hid ((hh.below hBW (Nat.le_refl _)).mono hBW.size)
  have c0 : (w.alloc (.cells #[r, t, u, n] 26)).heap[w.heap.size]? = some (.cells #[r, t, u, n] 26 (0, 0)) := blk _ _ _ _ rfl
  obtain ⟨hr, htr, hu, hn⟩ := hc
  have HI := Lib.hid (And.intro hr (And.intro htr (And.intro hu hn)))
  obtain ⟨ar, cr, rfl, _⟩ := hr.open
  obtain ⟨at_, ct, rfl, _⟩ := htr.open
  obtain ⟨au, cu, rfl, _⟩ := hu.open
  obtain ⟨an, cn, rfl, _⟩ := hn.open
  obtain ⟨ah, ch, rfl, _⟩ := hh.open
  have HB := Lib.hid hBW
  have HX := Lib.hid c0
  clear hr htr hu hn hh hBW c0
  cases hl : longB c
  case true =>
    rw [hl] at HLO
    clear hl
    go_enter Try.func12, Try.ntmps12
    go_wp2_with fail
    refine HLO.out.mono ?_
    rintro e w1 ⟨rfl, hb1⟩
    go_wp2_with fail
    refine (awake_any w1).mono ?_
    rintro e w2 ⟨rfl, hb2⟩
    go_wp2_with fail
    go_ret
    have h1 := HB.out.trans (hb1.mono (by simp))
    exact ⟨rfl, h1.trans (hb2.mono h1.size)⟩
  case false =>
   rw [hl] at HLO
   by_cases h10 : 10 < l.length
   · have h10i : (10 : Int) < l.length := by omega
     clear hl
     go_enter Try.func12, Try.ntmps12
     go_wp2_with fail
     refine HLO.out.mono ?_
     rintro e w1 ⟨rfl, hb1⟩
     go_wp2_with fail
     refine (awake_any w1).mono ?_
     rintro e w2 ⟨rfl, hb2⟩
     go_wp2_with fail
     go_ret
     have h1 := HB.out.trans (hb1.mono (by simp))
     exact ⟨rfl, h1.trans (hb2.mono h1.size)⟩
   · have h10i : ¬ (10 : Int) < l.length := by omega
     have HSH := Lib.hid (short_of hl HI.out.1.2 HI.out.2.1.2 HI.out.2.2.1.2 (rows_i64 HI.out.2.2.2))
     clear hl HI
     go_enter Try.func12, Try.ntmps12
     go_upto_region 3 with (go_at_call 16; refine HLO.out.mono ?_; rintro e W0 ⟨rfl, hb0⟩; have H0 := Lib.hid hb0; clear hb0)
     have b0 := blk_on HX.out H0.out
     have hlt := (Array.getElem?_eq_some_iff.1 b0).1
     have hS : BoxK W0 w.heap.size (.slice ar c.rooms.length cr) (.slice at_ c.traps.length ct) (.slice au c.runs.length cu) (.slice an c.nights.length cn) (W0.drewN 1) := BoxK.of b0 1
     have HLT := Lib.hid hlt
     have hcw : ∀ W, Hid (Below W0.heap.size W0 W) → ColAt W W.heap.size (.slice ar c.rooms.length cr) (.slice at_ c.traps.length ct) (.slice au c.runs.length cu) (.slice an c.nights.length cn) c := fun W hW => (HC.out.on H0.out).on hW.out
     have hlw : ∀ W, Hid (Below W0.heap.size W0 W) → IsInts W W.heap.size (.slice ah l.length ch) l := fun W hW => (HLL.out.on H0.out).on hW.out
     have HOWN : Hid (∀ W, Hid (Below W0.heap.size W0 W) → Calls Try.prog 18 #[.agg #[.slice ar c.rooms.length cr, .slice at_ c.traps.length ct, .slice au c.runs.length cu, .slice an c.nights.length cn]] W fun e w' => ∃ r' t' u' n', e = .returned (.agg #[r', t', u', n']) ∧ OwnCol w' W.heap.size r' t' u' n' c ∧ Below W.heap.size W w' ∧ W0.heap.size ≤ W.heap.size) := fun W hW => (own_any c _ _ _ _ W (hcw W hW) HSH.out).mono fun _ _ ⟨a, b, d, e, h1, h2, h3⟩ => ⟨a, b, d, e, h1, h2, h3, hW.out.size⟩
     have HTHE : Hid (∀ W, Hid (Below W0.heap.size W0 W) → Calls Try.prog 19 #[.agg #[.slice ar c.rooms.length cr, .slice at_ c.traps.length ct, .slice au c.runs.length cu, .slice an c.nights.length cn]] W fun e w' => ∃ r' t' u' n', e = .returned (.agg #[r', t', u', n']) ∧ RefCol w' W.heap.size r' t' u' n' c ∧ Below W.heap.size W w' ∧ W0.heap.size ≤ W.heap.size) := fun W hW => (theirs_any c _ _ _ _ W (hcw W hW) HSH.out).mono fun _ _ ⟨a, b, d, e, h1, h2, h3⟩ => ⟨a, b, d, e, h1, h2, h3, hW.out.size⟩
     have HCPY : Hid (∀ W, Hid (Below W0.heap.size W0 W) → Calls Try.prog 44 #[.slice ah l.length ch] W fun e w' => ∃ a q, e = .returned (.slice a l.length q) ∧ w'.ownsRow W.heap.size 3 1 (.slice a l.length q) l.length (intsV l) ∧ Below W.heap.size W w' ∧ W0.heap.size ≤ W.heap.size) := fun W hW => (copyI_any l _ W (hlw W hW) (by omega)).mono fun _ _ ⟨v, h1, h2, h3⟩ => by
       obtain ⟨a, q, rfl⟩ := owns_slice h2
       exact ⟨a, q, h1, h2, h3, hW.out.size⟩
     have hS' : W0.drew.cell? ⟨w.heap.size, 0, none⟩ = some (.slice ar c.rooms.length cr) ∧ W0.drew.cell? ⟨w.heap.size, 1, none⟩ = some (.slice at_ c.traps.length ct) ∧ W0.drew.cell? ⟨w.heap.size, 2, none⟩ = some (.slice au c.runs.length cu) ∧ W0.drew.cell? ⟨w.heap.size, 3, none⟩ = some (.slice an c.nights.length cn) ∧ Hid (Below W0.heap.size W0 W0.drew) := hS
     have HSS := Lib.hid hS'
     clear b0 hlt hS hcw hlw
     have hsz0 : ∀ o, (W0.alloc o).drew.heap.size = W0.heap.size + 1 := fun o => World.size_alloc W0 o
     have hsz1 : ∀ o o2, ((W0.alloc o).alloc o2).drew.heap.size = W0.heap.size + 1 + 1 := fun o o2 => by rw [← World.size_alloc W0 o]; exact World.size_alloc (W0.alloc o) o2
     go_cut [11, 12, 13] (fun s5 s6 s7 wx => MidP3 W0 c l s5 s6 s7 wx)
     case first =>
      go_region_held3 (fun w' => w'.cell? ⟨w.heap.size, 0, none⟩ = some (.slice ar c.rooms.length cr) ∧ w'.cell? ⟨w.heap.size, 1, none⟩ = some (.slice at_ c.traps.length ct) ∧ w'.cell? ⟨w.heap.size, 2, none⟩ = some (.slice au c.runs.length cu) ∧ w'.cell? ⟨w.heap.size, 3, none⟩ = some (.slice an c.nights.length cn) ∧ Hid (Below W0.heap.size W0 w')) (first | with_reducible assumption | with_reducible exact BoxK.alloc HLT.out (BoxK.alloc HLT.out HS3.out) | with_reducible exact BoxK.alloc HLT.out HS3.out | with_reducible exact BoxK.alloc HLT.out (BoxK.alloc HLT.out HS2.out) | with_reducible exact BoxK.alloc HLT.out HS2.out | with_reducible exact BoxK.alloc HLT.out (BoxK.alloc HLT.out HS1.out) | with_reducible exact BoxK.alloc HLT.out HS1.out | with_reducible exact BoxK.alloc HLT.out (BoxK.store HLT.out (by first | omega | (simp; omega)) HS3.out) | with_reducible exact BoxK.store HLT.out (by first | omega | (simp; omega)) (BoxK.store HLT.out (by first | omega | (simp; omega)) HS3.out) | with_reducible exact BoxK.store HLT.out (by first | omega | (simp; omega)) HS3.out | with_reducible exact BoxK.below HLT.out (by assumption) (by assumption) | with_reducible exact BoxK.allocD HLT.out (by assumption) | with_reducible exact BoxK.allocDD HLT.out (by assumption) | fail) (first | (go_at_call 18; (with_reducible refine (HOWN.out _ (by exact (by assumption : _ ∧ _ ∧ _ ∧ _ ∧ Hid _).2.2.2.2)).mono ?_); rintro e w1 ⟨r1, t1, u1, n1, rfl, hx1, hb1, hz1⟩; obtain ⟨a11, q11, a12, q12, a13, q13, a14, q14, rfl, rfl, rfl, rfl⟩ := hx1.slices; obtain ⟨hcb1, hfb1⟩ := bcell hb1; have m1 := hb1.size; have mz1 := m1; (try simp only [World.size_alloc] at mz1); (try rw [hsz0] at m1); (try rw [hsz1] at m1); (try have k1 : W0.heap.size < w1.heap.size := by omega); (try have j1 : W0.heap.size + 1 < w1.heap.size := by omega); have l1 : ∀ x, x < _ → x < w1.heap.size := fun x hx => Nat.lt_of_lt_of_le hx m1; have HX1 := Lib.hid hx1; have HS1 := Lib.hid (BoxK.below HLT.out hb1 (by assumption)); clear hx1) | (go_at_call 44; (with_reducible refine (HCPY.out _ (by exact (by assumption : _ ∧ _ ∧ _ ∧ _ ∧ Hid _).2.2.2.2)).mono ?_); rintro e w2 ⟨a2, q2, rfl, hx2, hb2, hz2⟩; obtain ⟨hcb2, hfb2⟩ := bcell hb2; have m2 := hb2.size; have mz2 := m2; (try simp only [World.size_alloc] at mz2); (try have z2_W0_0 : W0.heap.size < w2.heap.size := by omega); (try have z2_W0_1 : W0.heap.size < w2.heap.size + 1 := by omega); (try have z2_W0_2 : W0.heap.size < w2.heap.size + 1 + 1 := by omega); (try have z2_W0p1_0 : W0.heap.size + 1 < w2.heap.size := by omega); (try have z2_W0p1_1 : W0.heap.size + 1 < w2.heap.size + 1 := by omega); (try have z2_W0p1_2 : W0.heap.size + 1 < w2.heap.size + 1 + 1 := by omega); (try have z2_w1_0 : w1.heap.size < w2.heap.size := by omega); (try have z2_w1_1 : w1.heap.size < w2.heap.size + 1 := by omega); (try have z2_w1_2 : w1.heap.size < w2.heap.size + 1 + 1 := by omega); (try have z2_w1p1_0 : w1.heap.size + 1 < w2.heap.size := by omega); (try have z2_w1p1_1 : w1.heap.size + 1 < w2.heap.size + 1 := by omega); (try have z2_w1p1_2 : w1.heap.size + 1 < w2.heap.size + 1 + 1 := by omega); (try rw [hsz0] at m2); (try rw [hsz1] at m2); (try have k2 : W0.heap.size < w2.heap.size := by omega); (try have j2 : W0.heap.size + 1 < w2.heap.size := by omega); have l2 : ∀ x, x < _ → x < w2.heap.size := fun x hx => Nat.lt_of_lt_of_le hx m2; have HX2 := Lib.hid hx2; have HS2 := Lib.hid (BoxK.below HLT.out hb2 (by assumption)); clear hx2) | (go_at_call 19; (with_reducible refine (HTHE.out _ (by exact (by assumption : _ ∧ _ ∧ _ ∧ _ ∧ Hid _).2.2.2.2)).mono ?_); rintro e w3 ⟨r3, t3, u3, n3, rfl, hx3, hb3, hz3⟩; obtain ⟨a31, q31, a32, q32, a33, q33, a34, q34, rfl, rfl, rfl, rfl⟩ := hx3.slices; obtain ⟨hcb3, hfb3⟩ := bcell hb3; have m3 := hb3.size; have mz3 := m3; (try simp only [World.size_alloc] at mz3); (try have z3_W0_0 : W0.heap.size < w3.heap.size := by omega); (try have z3_W0p1_0 : W0.heap.size + 1 < w3.heap.size := by omega); (try have z3_w1_0 : w1.heap.size < w3.heap.size := by omega); (try have z3_w1p1_0 : w1.heap.size + 1 < w3.heap.size := by omega); (try have z3_w2_0 : w2.heap.size < w3.heap.size := by omega); (try have z3_w2p1_0 : w2.heap.size + 1 < w3.heap.size := by omega); (try rw [hsz0] at m3); (try rw [hsz1] at m3); (try have k3 : W0.heap.size < w3.heap.size := by omega); (try have j3 : W0.heap.size + 1 < w3.heap.size := by omega); have l3 : ∀ x, x < _ → x < w3.heap.size := fun x hx => Nat.lt_of_lt_of_le hx m3; have HX3 := Lib.hid hx3; have HS3 := Lib.hid (BoxK.below HLT.out hb3 (by assumption)); clear hx3))
      all_goals
        have hB1 : Below W0.heap.size W0 w1 := HS1.out.2.2.2.2.out
        have hB2 : Below W0.heap.size W0 w2 := HS2.out.2.2.2.2.out
        have hB3 : Below W0.heap.size W0 w3 := HS3.out.2.2.2.2.out
        have n1 := hB1.size
        have n2 := hB2.size
        have n3 := hB3.size
        have b12 : Below w1.heap.size w1 w2 := by first | exact hb2 | exact ((Below.refl _ _).alloc (Nat.le_refl _) _).trans (hb2.mono (by simp)) | exact (((Below.refl _ _).alloc (Nat.le_refl _) _).alloc (by simp) _).trans (hb2.mono (by simp; omega))
        have b23 : Below w2.heap.size w2 w3 := by first | exact hb3 | exact ((Below.refl _ _).alloc (Nat.le_refl _) _).trans (hb3.mono (by simp)) | exact (((Below.refl _ _).alloc (Nat.le_refl _) _).alloc (by simp) _).trans (hb3.mono (by simp; omega))
        have o1 := ((HX1.out.base hz1).below b12).below b23
        have o2 := owns_below (owns_base HX2.out hz2) b23
        have o3 := HX3.out.base' hz3
        have HF := Lib.hid (And.intro o1 (And.intro o2 (And.intro o3 (And.intro hB3 (And.intro b12 (And.intro b23 (And.intro hb1 (And.intro hb2 hb3))))))))
        have HNN := Lib.hid (And.intro n1 (And.intro n2 n3))
        clear o1 o2 o3 hB1 hB2 hB3 b12 b23 hb1 hb2 hb3 hcb1 hcb2 hcb3 hfb1 hfb2 hfb3 l1 l2 l3 HX1 HX2 HX3 HS1 HS2 HS3 hz1 hz2 hz3 HOWN HTHE HCPY HSS HC HX HB HLO HLL
        go_wp2_with fail
        go_meet
        obtain ⟨o1, o2, o3, hB3, b12, b23, hb1, hb2, hb3⟩ := HF.out
        obtain ⟨n1, n2, n3⟩ := HNN.out
        first
          | with_reducible exact leaf3_aa o1 o2 o3 hB3
          | with_reducible exact leaf3_aa' o1 o2 o3 hB3
          | with_reducible refine leaf3_ba o1 o2 o3 hB3 ?_ ?_
          | with_reducible refine leaf3_ab o1 o2 o3 hB3 ?_ ?_
          | with_reducible refine leaf3_bb o1 o2 o3 hB3 ?_ ?_ ?_ ?_
        all_goals first | omega | exact (by first | exact blk_on (heap_alloc_new _ _) hb3 | exact blk_on (keep _ (heap_alloc_new _ _)) hb3 | exact blk_on (blk _ _ _ _ (by simp)) hb3 | exact blk_on (blk_on (heap_alloc_new _ _) hb2) b23 | exact blk_on (blk_on (keep _ (heap_alloc_new _ _)) hb2) b23 | exact blk_on (blk_on (blk _ _ _ _ (by simp)) hb2) b23 | exact blk_on (blk_on (blk_on (blkD _ _ _ _ rfl) hb1) b12) b23 | exact blk_on (blk_on (blk_on (keepD _ (heap_alloc_new _ _)) hb1) b12) b23 | exact blk_on (blk_on (blk_on (blkD _ _ _ _ (by simp)) hb1) b12) b23)
     case rest =>
      obtain ⟨⟨p, q, r1, t1, u1, n1, r2, t2, u2, n2, rfl, rfl, hp, hq, o1, o2, hB⟩, o3⟩ := hcut
      obtain ⟨a11, q11, a12, q12, a13, q13, a14, q14, rfl, rfl, rfl, rfl⟩ := o1.slices
      obtain ⟨a21, q21, a22, q22, a23, q23, a24, q24, rfl, rfl, rfl, rfl⟩ := o2.slices
      obtain ⟨am, qm, rfl⟩ := owns_slice o3
      have hL : LawAt w wc p q (.slice ar c.rooms.length cr) (.slice at_ c.traps.length ct) (.slice au c.runs.length cu) (.slice an c.nights.length cn) _ _ _ _ _ _ _ _ c := ⟨hp, hq, blk_on (blk_on HX.out H0.out) hB, ((HC.out.on H0.out).on hB), o1.col HSH.out, o2.col HSH.out, HB.out.trans ((H0.out.trans (hB.mono H0.out.size)).mono HB.out.size)⟩
      have hM : IsInts wc wc.heap.size (.slice am l.length qm) l := nums_of_owns o3 HLL.out.2 (by omega)
      have hA : IsInts wc wc.heap.size (.slice ah l.length ch) l := (HLL.out.on H0.out).on hB
      have L0 := Lib.hid hL
      have M0 := Lib.hid (And.intro hM hA)
      clear hp hq o1 o2 o3 hB hL hM hA HOWN HTHE HCPY HSS HSH H0 HC HX HB HLO HLT HLL hsz0 hsz1
      obtain ⟨x0, x1, x2, x3⟩ := four_cells L0.out.hp
      have HCON := Lib.hid (gone_both c _ _ _ _ _ l wc L0.out.own M0.out.1)
      go_wp2_with fail
      refine HCON.out.mono ?_
      rintro e w1 ⟨rfl, hb1⟩
      have L1 := Lib.hid (L0.out.on hb1)
      have M1 := Lib.hid (And.intro (M0.out.1.on hb1) (M0.out.2.on hb1))
      clear hb1 L0 M0 HCON x0 x1 x2 x3
      obtain ⟨x0, x1, x2, x3⟩ := four_cells L1.out.hq
      have HCON := Lib.hid (rGone_any c _ _ _ _ _ l w1 L1.out.ref M1.out.2)
      go_wp2_with fail
      refine HCON.out.mono ?_
      rintro e w2 ⟨rfl, hb2⟩
      have L2 := Lib.hid (L1.out.on hb2)
      have M2 := Lib.hid (And.intro (M1.out.1.on hb2) (M1.out.2.on hb2))
      clear hb2 L1 M1 HCON x0 x1 x2 x3
      obtain ⟨x0, x1, x2, x3⟩ := four_cells L2.out.hp
      have hway := Way_any c _ _ _ _ f h m w2 L2.out.own
      have hgoes := fun W A => rGoes_any c (.slice a21 c.rooms.length q21) (.slice a22 c.traps.length q22) (.slice a23 c.runs.length q23) (.slice a24 c.nights.length q24) f h m W A
      by_cases hwe : wayErr c f h m = 0
      · rw [hwe] at hway hgoes
        have HCON := Lib.hid hway
        have HGOES := Lib.hid hgoes
        have HWE := Lib.hid hwe
        clear hway hgoes hwe
        go_wp2_with fail
        refine HCON.out.mono ?_
        rintro e w3 ⟨v3, L, rfl, hv3, hpost, hb3⟩
        obtain ⟨hok, hf0, hh0, hm0⟩ := hpost.1 HWE.out
        have hlen := hok.len
        obtain ⟨a3, q3, rfl, _, _, hcl3⟩ := hv3.open
        obtain ⟨b3, o3, rfl, hbl3, hc0⟩ := hcl3 0 (by omega)
        obtain ⟨b3', o3', e3, _, hcm⟩ := hcl3 m.toNat (by omega)
        cases e3
        rw [hok.first] at hc0
        rw [hok.last] at hcm
        have L3 := Lib.hid (L2.out.on hb3)
        have M3 := Lib.hid (And.intro (M2.out.1.on hb3) (M2.out.2.on hb3))
        have HV3 := Lib.hid (And.intro hv3 (And.intro hbl3 (And.intro hc0 hcm)))
        have HOKW := Lib.hid hok
        clear hb3 L2 M2 HCON x0 x1 x2 x3 hv3 hpost hok hcl3 hbl3 hc0 hcm HWE
        obtain ⟨F, rfl⟩ : ∃ F : Nat, f = F := ⟨f.toNat, by omega⟩
        obtain ⟨H, rfl⟩ : ∃ H : Nat, h = H := ⟨h.toNat, by omega⟩
        obtain ⟨M, rfl⟩ : ∃ M : Nat, m = M := ⟨m.toNat, by omega⟩
        simp only [Int.toNat_natCast] at HV3 HOKW hlen
        rw [hlen] at HV3 ⊢
        clear hf0 hh0 hm0
        obtain ⟨x0, x1, x2, x3⟩ := four_cells L3.out.hq
        have HCON := Lib.hid (HGOES.out w3 L3.out.ref)
        have hM6 : (M : Int) < 100 := by have := inB_true (gone_in HOKW.out.gone.1).2.1; have := (okCol_of (gone_in HOKW.out.gone.1).1).nights; omega
        go_wp2_with fail
        refine HCON.out.mono ?_
        rintro e w4 ⟨rfl, hb4⟩
        have L4 := Lib.hid (L3.out.on hb4)
        have M4 := Lib.hid (And.intro (M3.out.1.on hb4) (M3.out.2.on hb4))
        have hv4 := HV3.out.1.on hb4
        have hcz := (hb4.cell (p := ⟨b3, o3 + 0, none⟩) HV3.out.2.1).trans HV3.out.2.2.1
        have hcm := (hb4.cell (p := ⟨b3, o3 + M, none⟩) HV3.out.2.1).trans HV3.out.2.2.2
        have hbl4 : b3 < w4.heap.size := Nat.lt_of_lt_of_le HV3.out.2.1 hb4.size
        have HCON2 := Lib.hid (rGone_any c _ _ _ _ _ L w4 L4.out.ref hv4)
        have hgv : goneV c L = true := by unfold goneV; rw [if_pos HOKW.out.gone.1]; exact HOKW.out.gone.2
        rw [hgv, HOKW.out.gone.1] at HCON2
        have HV4 := Lib.hid (And.intro hbl4 (And.intro hcz hcm))
        clear hb4 L3 M3 HV3 HCON x0 x1 x2 x3 hv4 hcz hcm hbl4 hgv
        obtain ⟨x0, x1, x2, x3⟩ := four_cells L4.out.hq
        go_wp2_with fail
        refine HCON2.out.mono ?_
        rintro e w5 ⟨rfl, hb5⟩
        have L5 := Lib.hid (L4.out.on hb5)
        have M5 := Lib.hid (And.intro (M4.out.1.on hb5) (M4.out.2.on hb5))
        have hcz := (hb5.cell (p := ⟨b3, o3 + 0, none⟩) HV4.out.1).trans HV4.out.2.1
        have hcm := (hb5.cell (p := ⟨b3, o3 + M, none⟩) HV4.out.1).trans HV4.out.2.2
        rw [Nat.add_zero] at hcz
        have hMl : (M : Int) < (M : Int) + 1 := by omega
        clear hb5 L4 M4 HV4 HCON2 x0 x1 x2 x3
        obtain ⟨x0, x1, x2, x3⟩ := four_cells L5.out.hp
        obtain ⟨y0, y1, y2, y3⟩ := four_cells L5.out.box
        have HSA := Lib.hid (same_any c _ _ _ _ _ _ _ _ w5 L5.out.own L5.out.arg)
        go_wp2_with fail
        refine HSA.out.mono ?_
        rintro e w22 ⟨rfl, hb22⟩
        have L22 := Lib.hid (L5.out.below.trans (hb22.mono L5.out.below.size))
        have hal := alike_any _ _ _ _ w22 (M5.out.1.on hb22) (M5.out.2.on hb22)
        simp only [decide_true] at hal
        have HAL := Lib.hid hal
        clear hb22 L5 M5 HSA x0 x1 x2 x3 y0 y1 y2 y3 hal
        go_wp2_with fail
        refine HAL.out.mono ?_
        rintro e w23 ⟨rfl, rfl⟩
        clear HAL
        go_wp2_with fail
        refine (awake_any w22).mono ?_
        rintro e w24 ⟨rfl, hb24⟩
        have L24 := Lib.hid (L22.out.trans (hb24.mono L22.out.size))
        clear hb24 L22
        go_wp2_with fail
        go_ret
        exact ⟨rfl, L24.out⟩
      · have HCON := Lib.hid hway
        have HGOES := Lib.hid hgoes
        have HWE := Lib.hid hwe
        have g0 : (wayErr c f h m == 0) = false := by simpa using hwe
        clear hway hgoes
        go_wp2_with fail
        refine HCON.out.mono ?_
        rintro e w3 ⟨v3, L, rfl, hv3, hpost, hb3⟩
        obtain rfl := hpost.2 HWE.out
        obtain ⟨a3, q3, rfl, _⟩ := hv3.open
        have L3 := Lib.hid (L2.out.on hb3)
        have M3 := Lib.hid (And.intro (M2.out.1.on hb3) (M2.out.2.on hb3))
        clear hb3 L2 M2 HCON x0 x1 x2 x3 hv3 hpost HWE
        obtain ⟨x0, x1, x2, x3⟩ := four_cells L3.out.hq
        have HCON := Lib.hid (HGOES.out w3 L3.out.ref)
        go_wp2_with fail
        refine HCON.out.mono ?_
        rintro e w4 ⟨rfl, hb4⟩
        have L4 := Lib.hid (L3.out.on hb4)
        have M4 := Lib.hid (And.intro (M3.out.1.on hb4) (M3.out.2.on hb4))
        clear hb4 L3 M3 HCON x0 x1 x2 x3
        obtain ⟨x0, x1, x2, x3⟩ := four_cells L4.out.hp
        obtain ⟨y0, y1, y2, y3⟩ := four_cells L4.out.box
        have HSA := Lib.hid (same_any c _ _ _ _ _ _ _ _ w4 L4.out.own L4.out.arg)
        go_wp2_with fail
        refine HSA.out.mono ?_
        rintro e w22 ⟨rfl, hb22⟩
        have L22 := Lib.hid (L4.out.below.trans (hb22.mono L4.out.below.size))
        have hal := alike_any _ _ _ _ w22 (M4.out.1.on hb22) (M4.out.2.on hb22)
        simp only [decide_true] at hal
        have HAL := Lib.hid hal
        clear hb22 L4 M4 HSA x0 x1 x2 x3 y0 y1 y2 y3 hal
        go_wp2_with fail
        refine HAL.out.mono ?_
        rintro e w23 ⟨rfl, rfl⟩
        clear HAL
        go_wp2_with fail
        refine (awake_any w22).mono ?_
        rintro e w24 ⟨rfl, hb24⟩
        have L24 := Lib.hid (L22.out.trans (hb24.mono L22.out.size))
        clear hb24 L22
        go_wp2_with fail
        go_ret
        exact ⟨rfl, L24.out⟩
end Go.Proofs.Ytnhifinfjfpoiaa

namespace Go.Proofs.Ytnhifinfjfpoiaa
open Go.RowKit Go.ChangeShapes Go.WideShapes Go.ChangeAt

theorem ownKnob_none : ownKnob Try.prog.godebug = none := by kernel_rfl
theorem laidOut_yes : laidOutB Try.prog = true := by kernel_rfl

set_option maxRecDepth 100000 in
theorem ratWays_lifted (os : Os) (started : os.Started) (H : Type) (enc : TypeId × Value → H) :
    ReturnsInHanded {} Try.checked os 12 .any (Rows.ratWaysSpec.pre6 enc Try.prog Try.f12 Rows.ratWaysRow.domain false) (Rows.ratWaysSpec.post enc Try.prog Try.f12 false true false false) := by
  refine returnsInHanded_of_change_sized (C := Try.checked) ownKnob_none started (by kernel_rfl) Try.func12
    (ChangeSpec.witness6 (enc := enc) (C := Try.checked) false ⟨#[], #[.agg #[.slice none 0 0, .slice none 0 0, .slice none 0 0, .slice none 0 0], .int .i64 0, .int .i64 0, .int .i64 0, .slice none 0 0], []⟩ 8 (by kernel_rfl) (by kernel_rfl) (by kernel_rfl) (by kernel_rfl)) ?_
  intro W base args ds gs before hval0 hW0 _ hsz0 _
  have hval : ∀ (j : Nat) t v, Try.f12.params[j]? = some t → args[j]? = some v → Value.okWide Try.prog W .any base t v := hval0
  have hsz : (DataW.weightsEach Try.prog (Try.f12.params.toList ++ Rows.ratWaysSpec.plain.varTypes Try.prog) (ds ++ gs)).all (· ≤ reachBytes) = true := hsz0
  have hW := hW0
  obtain ⟨p, q, hA0, hV, rfl, hfz, hnd⟩ := hW
  have hA : DataW.TrodAll enc Try.prog W 0 (fun _ => true) true Try.f12.params.toList args.toList ds p := hA0
  rw [Try.params12] at hA hval hsz
  obtain ⟨v0, v1, v2, v3, v4, d0, d1, d2, d3, d4, p0, p1, p2, p3, p4, rfl, rfl, rfl, h0, h1, h2, h3, h4⟩ := trodAll_five hA
  obtain ⟨rfl, rfl⟩ := trodVars_none hV
  have k0 := h0
  have k1 := h1
  have k2 := h2
  have k3 := h3
  have k4 := h4
  obtain ⟨r, t, u, n, c, rfl, hc⟩ := open_col (hval 0 _ v0 rfl rfl) h0 (fun m hm => by
    have := List.all_eq_true.1 hsz m (DataW.weights_mem_each (j := 0) rfl rfl m hm)
    simpa using this)
  obtain ⟨a1, rfl, rfl, rfl, wa1⟩ := open_int Try.underlying3 (hval 1 _ v1 rfl rfl) h1
  obtain ⟨a2, rfl, rfl, rfl, wa2⟩ := open_int Try.underlying3 (hval 2 _ v2 rfl rfl) h2
  obtain ⟨a3, rfl, rfl, rfl, wa3⟩ := open_int Try.underlying3 (hval 3 _ v3 rfl rfl) h3
  obtain ⟨l4, hl4⟩ := open_list (hval 4 _ v4 rfl rfl) h4 (fun m hm => by
    have := List.all_eq_true.1 hsz m (DataW.weights_mem_each (j := 4) rfl rfl m hm)
    simpa using this)
  refine (ratWays_any c r t u n a1 a2 a3 _ l4 W hc hl4).mono fun e W' ⟨he, hb⟩ => ?_
  subst he
  have hlt0 : ∀ x ∈ p0, x.block < W.heap.size := fun x hx => hW0.lt x (by simp [hx])
  have s0 := Below.trod laidOut_yes (by kernel_rfl) (of_decide_eq_true (by kernel_rfl)) k0 hb hlt0
  have hlt4 : ∀ x ∈ p4, x.block < W.heap.size := fun x hx => hW0.lt x (by simp [hx])
  have s4 := Below.trod laidOut_yes (by kernel_rfl) (of_decide_eq_true (by kernel_rfl)) k4 hb hlt4
  exact ⟨_, rfl, _, _, _, [], _, _, hW0, trodAll_mk1 (shut_bool Try.underlying4 true), trodAll_mk5 s0 (shut_int Try.underlying3 wa1) (shut_int Try.underlying3 wa2) (shut_int Try.underlying3 wa3) s4, rfl, hb.frame _, fun h => by cases h⟩

theorem ratWays_holds : Rows.RatWaysSaid :=
  OpenClaim.holds_of_wide 12 Try.f12 rfl rfl rfl rfl rfl rfl rfl ⟨rfl, rfl, rfl, rfl, rfl⟩ rfl rfl rfl rfl rfl (by kernel_rfl) Try.func12 (by kernel_rfl)
    (of_decide_eq_true (by kernel_rfl)) (by unfold Func.isWrapper; first | (rw [if_pos (by decide +kernel)]; kernel_rfl) | (rw [if_neg (by decide +kernel)]; exact ⟨rfl, rfl⟩))
    (fun os started H enc _ => ratWays_lifted os started H enc)
end Go.Proofs.Ytnhifinfjfpoiaa
