/- RatShort holds: for every colony and list of houses the law answers true, and what came in reads as it read before. No condition is laid on the arguments beyond the form's own reach. -/
import Derived.Test.YtnhifinfjfpoiaaJ16
import Derived.Test.YtnhifinfjfpoiaaJ15
import Derived.Test.YtnhifinfjfpoiaaRows
namespace Go.Proofs.Ytnhifinfjfpoiaa
open Go.RowKit
set_option linter.unusedVariables false
set_option linter.unusedSimpArgs false

theorem fit_short_64 {c : Col} (h : checkC c = 0) (ht : (fitX c).torn = true) : (fitX c).short < 64 := ((fit_fed (okCol_of h)).torn_short ht).1
set_option maxRecDepth 100000 in
set_option maxHeartbeats 8000000 in
theorem ratShort_any (c : Col) (r t u n hv : Value) (l : List Int) (w : World) (hc : ColAt w w.heap.size r t u n c) (hh : IsInts w w.heap.size hv l) :
    Calls Try.prog 6 #[.agg #[r, t, u, n], hv] w fun e w' => e = .returned (.bool true) ∧ Below w.heap.size w w' := by
  have hBW : Below w.heap.size w (w.alloc (.cells #[r, t, u, n] 26)) := (Below.refl _ w).alloc (Nat.le_refl _) _
  have HLO := Lib.hid (long_any c r t u n _ (hc.on hBW))
  have HC := Lib.hid (hc.on hBW)
  have HLL := Lib.hid ((hh.below hBW (Nat.le_refl _)).mono hBW.size)
  have c0 : (w.alloc (.cells #[r, t, u, n] 26)).heap[w.heap.size]? = some (.cells #[r, t, u, n] 26 (0, 0)) := blk _ _ _ _ rfl
  obtain ⟨hr, htr, hu, hn⟩ := hc
  have HI := Lib.hid (And.intro hr (And.intro htr (And.intro hu hn)))
  obtain ⟨ar, cr, rfl, _⟩ := hr.open
  obtain ⟨at_, ct, rfl, _⟩ := htr.open
  obtain ⟨au, cu, rfl, _⟩ := hu.open
  obtain ⟨an, cn, rfl, _⟩ := hn.open
  obtain ⟨ah, ch, rfl, _⟩ := hh.open
  have HB := Lib.hid hBW
  have HX := Lib.hid c0
  clear hr htr hu hn hh hBW c0
  cases hl : longB c
  case true =>
    rw [hl] at HLO
    clear hl
    go_enter Try.func6, Try.ntmps6
    go_wp2_with fail
    refine HLO.out.mono ?_
    rintro e w1 ⟨rfl, hb1⟩
    go_wp2_with fail
    refine (awake_any w1).mono ?_
    rintro e w2 ⟨rfl, hb2⟩
    go_wp2_with fail
    go_ret
    have h1 := HB.out.trans (hb1.mono (by simp))
    exact ⟨rfl, h1.trans (hb2.mono h1.size)⟩
  case false =>
   rw [hl] at HLO
   by_cases h10 : 10 < l.length
   · have h10i : (10 : Int) < l.length := by omega
     clear hl
     go_enter Try.func6, Try.ntmps6
     go_wp2_with fail
     refine HLO.out.mono ?_
     rintro e w1 ⟨rfl, hb1⟩
     go_wp2_with fail
     refine (awake_any w1).mono ?_
     rintro e w2 ⟨rfl, hb2⟩
     go_wp2_with fail
     go_ret
     have h1 := HB.out.trans (hb1.mono (by simp))
     exact ⟨rfl, h1.trans (hb2.mono h1.size)⟩
   · have h10i : ¬ (10 : Int) < l.length := by omega
     have HSH := Lib.hid (short_of hl HI.out.1.2 HI.out.2.1.2 HI.out.2.2.1.2 (rows_i64 HI.out.2.2.2))
     clear hl HI
     go_enter Try.func6, Try.ntmps6
     go_upto_region 3 with (go_at_call 16; refine HLO.out.mono ?_; rintro e W0 ⟨rfl, hb0⟩; have H0 := Lib.hid hb0; clear hb0)
     have b0 := blk_on HX.out H0.out
     have hlt := (Array.getElem?_eq_some_iff.1 b0).1
     have hS : BoxK W0 w.heap.size (.slice ar c.rooms.length cr) (.slice at_ c.traps.length ct) (.slice au c.runs.length cu) (.slice an c.nights.length cn) (W0.drewN 1) := BoxK.of b0 1
     have HLT := Lib.hid hlt
     have hcw : ∀ W, Hid (Below W0.heap.size W0 W) → ColAt W W.heap.size (.slice ar c.rooms.length cr) (.slice at_ c.traps.length ct) (.slice au c.runs.length cu) (.slice an c.nights.length cn) c := fun W hW => (HC.out.on H0.out).on hW.out
     have hlw : ∀ W, Hid (Below W0.heap.size W0 W) → IsInts W W.heap.size (.slice ah l.length ch) l := fun W hW => (HLL.out.on H0.out).on hW.out
     have HOWN : Hid (∀ W, Hid (Below W0.heap.size W0 W) → Calls Try.prog 18 #[.agg #[.slice ar c.rooms.length cr, .slice at_ c.traps.length ct, .slice au c.runs.length cu, .slice an c.nights.length cn]] W fun e w' => ∃ r' t' u' n', e = .returned (.agg #[r', t', u', n']) ∧ OwnCol w' W.heap.size r' t' u' n' c ∧ Below W.heap.size W w' ∧ W0.heap.size ≤ W.heap.size) := fun W hW => (own_any c _ _ _ _ W (hcw W hW) HSH.out).mono fun _ _ ⟨a, b, d, e, h1, h2, h3⟩ => ⟨a, b, d, e, h1, h2, h3, hW.out.size⟩
     have HTHE : Hid (∀ W, Hid (Below W0.heap.size W0 W) → Calls Try.prog 19 #[.agg #[.slice ar c.rooms.length cr, .slice at_ c.traps.length ct, .slice au c.runs.length cu, .slice an c.nights.length cn]] W fun e w' => ∃ r' t' u' n', e = .returned (.agg #[r', t', u', n']) ∧ RefCol w' W.heap.size r' t' u' n' c ∧ Below W.heap.size W w' ∧ W0.heap.size ≤ W.heap.size) := fun W hW => (theirs_any c _ _ _ _ W (hcw W hW) HSH.out).mono fun _ _ ⟨a, b, d, e, h1, h2, h3⟩ => ⟨a, b, d, e, h1, h2, h3, hW.out.size⟩
     have HCPY : Hid (∀ W, Hid (Below W0.heap.size W0 W) → Calls Try.prog 44 #[.slice ah l.length ch] W fun e w' => ∃ a q, e = .returned (.slice a l.length q) ∧ w'.ownsRow W.heap.size 3 1 (.slice a l.length q) l.length (intsV l) ∧ Below W.heap.size W w' ∧ W0.heap.size ≤ W.heap.size) := fun W hW => (copyI_any l _ W (hlw W hW) (by omega)).mono fun _ _ ⟨v, h1, h2, h3⟩ => by
       obtain ⟨a, q, rfl⟩ := owns_slice h2
       exact ⟨a, q, h1, h2, h3, hW.out.size⟩
     have hS' : W0.drew.cell? ⟨w.heap.size, 0, none⟩ = some (.slice ar c.rooms.length cr) ∧ W0.drew.cell? ⟨w.heap.size, 1, none⟩ = some (.slice at_ c.traps.length ct) ∧ W0.drew.cell? ⟨w.heap.size, 2, none⟩ = some (.slice au c.runs.length cu) ∧ W0.drew.cell? ⟨w.heap.size, 3, none⟩ = some (.slice an c.nights.length cn) ∧ Hid (Below W0.heap.size W0 W0.drew) := hS
     have HSS := Lib.hid hS'
     clear b0 hlt hS hcw hlw
     have hsz0 : ∀ o, (W0.alloc o).drew.heap.size = W0.heap.size + 1 := fun o => World.size_alloc W0 o
     have hsz1 : ∀ o o2, ((W0.alloc o).alloc o2).drew.heap.size = W0.heap.size + 1 + 1 := fun o o2 => by rw [← World.size_alloc W0 o]; exact World.size_alloc (W0.alloc o) o2
     go_cut [5, 6, 7] (fun s5 s6 s7 wx => MidP3 W0 c l s5 s6 s7 wx)
     case first =>
      go_region_held3 (fun w' => w'.cell? ⟨w.heap.size, 0, none⟩ = some (.slice ar c.rooms.length cr) ∧ w'.cell? ⟨w.heap.size, 1, none⟩ = some (.slice at_ c.traps.length ct) ∧ w'.cell? ⟨w.heap.size, 2, none⟩ = some (.slice au c.runs.length cu) ∧ w'.cell? ⟨w.heap.size, 3, none⟩ = some (.slice an c.nights.length cn) ∧ Hid (Below W0.heap.size W0 w')) (first | with_reducible assumption | with_reducible exact BoxK.alloc HLT.out (BoxK.alloc HLT.out HS3.out) | with_reducible exact BoxK.alloc HLT.out HS3.out | with_reducible exact BoxK.alloc HLT.out (BoxK.alloc HLT.out HS2.out) | with_reducible exact BoxK.alloc HLT.out HS2.out | with_reducible exact BoxK.alloc HLT.out (BoxK.alloc HLT.out HS1.out) | with_reducible exact BoxK.alloc HLT.out HS1.out | with_reducible exact BoxK.alloc HLT.out (BoxK.store HLT.out (by first | omega | (simp; omega)) HS3.out) | with_reducible exact BoxK.store HLT.out (by first | omega | (simp; omega)) (BoxK.store HLT.out (by first | omega | (simp; omega)) HS3.out) | with_reducible exact BoxK.store HLT.out (by first | omega | (simp; omega)) HS3.out | with_reducible exact BoxK.below HLT.out (by assumption) (by assumption) | with_reducible exact BoxK.allocD HLT.out (by assumption) | with_reducible exact BoxK.allocDD HLT.out (by assumption) | fail) (first | (go_at_call 18; (with_reducible refine (HOWN.out _ (by exact (by assumption : _ ∧ _ ∧ _ ∧ _ ∧ Hid _).2.2.2.2)).mono ?_); rintro e w1 ⟨r1, t1, u1, n1, rfl, hx1, hb1, hz1⟩; obtain ⟨a11, q11, a12, q12, a13, q13, a14, q14, rfl, rfl, rfl, rfl⟩ := hx1.slices; obtain ⟨hcb1, hfb1⟩ := bcell hb1; have m1 := hb1.size; have mz1 := m1; (try simp only [World.size_alloc] at mz1); (try rw [hsz0] at m1); (try rw [hsz1] at m1); (try have k1 : W0.heap.size < w1.heap.size := by omega); (try have j1 : W0.heap.size + 1 < w1.heap.size := by omega); have l1 : ∀ x, x < _ → x < w1.heap.size := fun x hx => Nat.lt_of_lt_of_le hx m1; have HX1 := Lib.hid hx1; have HS1 := Lib.hid (BoxK.below HLT.out hb1 (by assumption)); clear hx1) | (go_at_call 44; (with_reducible refine (HCPY.out _ (by exact (by assumption : _ ∧ _ ∧ _ ∧ _ ∧ Hid _).2.2.2.2)).mono ?_); rintro e w2 ⟨a2, q2, rfl, hx2, hb2, hz2⟩; obtain ⟨hcb2, hfb2⟩ := bcell hb2; have m2 := hb2.size; have mz2 := m2; (try simp only [World.size_alloc] at mz2); (try have z2_W0_0 : W0.heap.size < w2.heap.size := by omega); (try have z2_W0_1 : W0.heap.size < w2.heap.size + 1 := by omega); (try have z2_W0_2 : W0.heap.size < w2.heap.size + 1 + 1 := by omega); (try have z2_W0p1_0 : W0.heap.size + 1 < w2.heap.size := by omega); (try have z2_W0p1_1 : W0.heap.size + 1 < w2.heap.size + 1 := by omega); (try have z2_W0p1_2 : W0.heap.size + 1 < w2.heap.size + 1 + 1 := by omega); (try have z2_w1_0 : w1.heap.size < w2.heap.size := by omega); (try have z2_w1_1 : w1.heap.size < w2.heap.size + 1 := by omega); (try have z2_w1_2 : w1.heap.size < w2.heap.size + 1 + 1 := by omega); (try have z2_w1p1_0 : w1.heap.size + 1 < w2.heap.size := by omega); (try have z2_w1p1_1 : w1.heap.size + 1 < w2.heap.size + 1 := by omega); (try have z2_w1p1_2 : w1.heap.size + 1 < w2.heap.size + 1 + 1 := by omega); (try rw [hsz0] at m2); (try rw [hsz1] at m2); (try have k2 : W0.heap.size < w2.heap.size := by omega); (try have j2 : W0.heap.size + 1 < w2.heap.size := by omega); have l2 : ∀ x, x < _ → x < w2.heap.size := fun x hx => Nat.lt_of_lt_of_le hx m2; have HX2 := Lib.hid hx2; have HS2 := Lib.hid (BoxK.below HLT.out hb2 (by assumption)); clear hx2) | (go_at_call 19; (with_reducible refine (HTHE.out _ (by exact (by assumption : _ ∧ _ ∧ _ ∧ _ ∧ Hid _).2.2.2.2)).mono ?_); rintro e w3 ⟨r3, t3, u3, n3, rfl, hx3, hb3, hz3⟩; obtain ⟨a31, q31, a32, q32, a33, q33, a34, q34, rfl, rfl, rfl, rfl⟩ := hx3.slices; obtain ⟨hcb3, hfb3⟩ := bcell hb3; have m3 := hb3.size; have mz3 := m3; (try simp only [World.size_alloc] at mz3); (try have z3_W0_0 : W0.heap.size < w3.heap.size := by omega); (try have z3_W0p1_0 : W0.heap.size + 1 < w3.heap.size := by omega); (try have z3_w1_0 : w1.heap.size < w3.heap.size := by omega); (try have z3_w1p1_0 : w1.heap.size + 1 < w3.heap.size := by omega); (try have z3_w2_0 : w2.heap.size < w3.heap.size := by omega); (try have z3_w2p1_0 : w2.heap.size + 1 < w3.heap.size := by omega); (try rw [hsz0] at m3); (try rw [hsz1] at m3); (try have k3 : W0.heap.size < w3.heap.size := by omega); (try have j3 : W0.heap.size + 1 < w3.heap.size := by omega); have l3 : ∀ x, x < _ → x < w3.heap.size := fun x hx => Nat.lt_of_lt_of_le hx m3; have HX3 := Lib.hid hx3; have HS3 := Lib.hid (BoxK.below HLT.out hb3 (by assumption)); clear hx3))
      all_goals
        have hB1 : Below W0.heap.size W0 w1 := HS1.out.2.2.2.2.out
        have hB2 : Below W0.heap.size W0 w2 := HS2.out.2.2.2.2.out
        have hB3 : Below W0.heap.size W0 w3 := HS3.out.2.2.2.2.out
        have n1 := hB1.size
        have n2 := hB2.size
        have n3 := hB3.size
        have b12 : Below w1.heap.size w1 w2 := by first | exact hb2 | exact ((Below.refl _ _).alloc (Nat.le_refl _) _).trans (hb2.mono (by simp)) | exact (((Below.refl _ _).alloc (Nat.le_refl _) _).alloc (by simp) _).trans (hb2.mono (by simp; omega))
        have b23 : Below w2.heap.size w2 w3 := by first | exact hb3 | exact ((Below.refl _ _).alloc (Nat.le_refl _) _).trans (hb3.mono (by simp)) | exact (((Below.refl _ _).alloc (Nat.le_refl _) _).alloc (by simp) _).trans (hb3.mono (by simp; omega))
        have o1 := ((HX1.out.base hz1).below b12).below b23
        have o2 := owns_below (owns_base HX2.out hz2) b23
        have o3 := HX3.out.base' hz3
        have HF := Lib.hid (And.intro o1 (And.intro o2 (And.intro o3 (And.intro hB3 (And.intro b12 (And.intro b23 (And.intro hb1 (And.intro hb2 hb3))))))))
        have HNN := Lib.hid (And.intro n1 (And.intro n2 n3))
        clear o1 o2 o3 hB1 hB2 hB3 b12 b23 hb1 hb2 hb3 hcb1 hcb2 hcb3 hfb1 hfb2 hfb3 l1 l2 l3 HX1 HX2 HX3 HS1 HS2 HS3 hz1 hz2 hz3 HOWN HTHE HCPY HSS HC HX HB HLO HLL
        go_wp2_with fail
        go_meet
        obtain ⟨o1, o2, o3, hB3, b12, b23, hb1, hb2, hb3⟩ := HF.out
        obtain ⟨n1, n2, n3⟩ := HNN.out
        first
          | with_reducible exact leaf3_aa o1 o2 o3 hB3
          | with_reducible exact leaf3_aa' o1 o2 o3 hB3
          | with_reducible refine leaf3_ba o1 o2 o3 hB3 ?_ ?_
          | with_reducible refine leaf3_ab o1 o2 o3 hB3 ?_ ?_
          | with_reducible refine leaf3_bb o1 o2 o3 hB3 ?_ ?_ ?_ ?_
        all_goals first | omega | exact (by first | exact blk_on (heap_alloc_new _ _) hb3 | exact blk_on (keep _ (heap_alloc_new _ _)) hb3 | exact blk_on (blk _ _ _ _ (by simp)) hb3 | exact blk_on (blk_on (heap_alloc_new _ _) hb2) b23 | exact blk_on (blk_on (keep _ (heap_alloc_new _ _)) hb2) b23 | exact blk_on (blk_on (blk _ _ _ _ (by simp)) hb2) b23 | exact blk_on (blk_on (blk_on (blkD _ _ _ _ rfl) hb1) b12) b23 | exact blk_on (blk_on (blk_on (keepD _ (heap_alloc_new _ _)) hb1) b12) b23 | exact blk_on (blk_on (blk_on (blkD _ _ _ _ (by simp)) hb1) b12) b23)
     case rest =>
      obtain ⟨⟨p, q, r1, t1, u1, n1, r2, t2, u2, n2, rfl, rfl, hp, hq, o1, o2, hB⟩, o3⟩ := hcut
      obtain ⟨a11, q11, a12, q12, a13, q13, a14, q14, rfl, rfl, rfl, rfl⟩ := o1.slices
      obtain ⟨a21, q21, a22, q22, a23, q23, a24, q24, rfl, rfl, rfl, rfl⟩ := o2.slices
      obtain ⟨am, qm, rfl⟩ := owns_slice o3
      have hL : LawAt w wc p q (.slice ar c.rooms.length cr) (.slice at_ c.traps.length ct) (.slice au c.runs.length cu) (.slice an c.nights.length cn) _ _ _ _ _ _ _ _ c := ⟨hp, hq, blk_on (blk_on HX.out H0.out) hB, ((HC.out.on H0.out).on hB), o1.col HSH.out, o2.col HSH.out, HB.out.trans ((H0.out.trans (hB.mono H0.out.size)).mono HB.out.size)⟩
      have hM : IsInts wc wc.heap.size (.slice am l.length qm) l := nums_of_owns o3 HLL.out.2 (by omega)
      have hA : IsInts wc wc.heap.size (.slice ah l.length ch) l := (HLL.out.on H0.out).on hB
      have L0 := Lib.hid hL
      have M0 := Lib.hid (And.intro hM hA)
      clear hp hq o1 o2 o3 hB hL hM hA HOWN HTHE HCPY HSS HSH H0 HC HX HB HLO HLT HLL hsz0 hsz1
      obtain ⟨x0, x1, x2, x3⟩ := four_cells L0.out.hp
      have HCON := Lib.hid (short_any c _ _ _ _ _ l wc L0.out.own M0.out.1).1
      go_wp2_with fail
      refine HCON.out.mono ?_
      rintro e w1 ⟨rfl, hb1⟩
      have L1 := Lib.hid (L0.out.on hb1)
      have M1 := Lib.hid (And.intro (M0.out.1.on hb1) (M0.out.2.on hb1))
      clear hb1 L0 M0 HCON x0 x1 x2 x3
      obtain ⟨x0, x1, x2, x3⟩ := four_cells L1.out.hq
      have HCON := Lib.hid (short_any c _ _ _ _ _ l w1 L1.out.ref M1.out.2).2
      go_wp2_with fail
      refine HCON.out.mono ?_
      rintro e w2 ⟨rfl, hb2⟩
      have L2 := Lib.hid (L1.out.on hb2)
      have M2 := Lib.hid (And.intro (M1.out.1.on hb2) (M1.out.2.on hb2))
      clear hb2 L1 M1 HCON x0 x1 x2 x3
      obtain ⟨x0, x1, x2, x3⟩ := four_cells L2.out.hp
      have hcl := Clash_any c _ _ _ _ w2 L2.out.own fit_short_64
      rcases (by by_cases h0 : fitErr c = 0; exact .inl h0; by_cases h7 : fitErr c = 7; exact .inr (.inl h7); exact .inr (.inr ⟨h0, h7⟩) : fitErr c = 0 ∨ fitErr c = 7 ∨ (¬ fitErr c = 0 ∧ ¬ fitErr c = 7)) with h0 | h7 | ⟨h0, h7⟩
      · obtain ⟨e1, e2⟩ := clash_0 h0
        rw [e1, e2] at hcl
        have hfe := h0
        clear e1 e2 h0
        have HCON := Lib.hid hcl
        have HFE := Lib.hid hfe
        clear hcl hfe
        go_wp2_with fail
        refine HCON.out.mono ?_
        rintro e w3 ⟨v3, rfl, hv3, hb3⟩
        obtain ⟨a3, q3, rfl, _⟩ := hv3.open
        have L3 := Lib.hid (L2.out.on hb3)
        have M3 := Lib.hid (And.intro (M2.out.1.on hb3) (M2.out.2.on hb3))
        have HV3 := Lib.hid hv3
        clear hb3 L2 M2 HCON x0 x1 x2 x3 hv3
        obtain ⟨x0, x1, x2, x3⟩ := four_cells L3.out.hq
        have HCON := Lib.hid (rfitting_any c _ _ _ _ w3 L3.out.ref)
        rw [rfit_is, HFE.out] at HCON
        go_wp2_with fail
        refine HCON.out.mono ?_
        rintro e w4 ⟨rfl, hb4⟩
        have L4 := Lib.hid (L3.out.on hb4)
        have M4 := Lib.hid (And.intro (M3.out.1.on hb4) (M3.out.2.on hb4))
        have HV4 := Lib.hid (HV3.out.on hb4)
        clear hb4 L3 M3 HV3 HCON x0 x1 x2 x3
        obtain ⟨x0, x1, x2, x3⟩ := four_cells L4.out.hp
        obtain ⟨y0, y1, y2, y3⟩ := four_cells L4.out.box
        have HSA := Lib.hid (same_any c _ _ _ _ _ _ _ _ w4 L4.out.own L4.out.arg)
        go_wp2_with fail
        refine HSA.out.mono ?_
        rintro e w22 ⟨rfl, hb22⟩
        have L22 := Lib.hid (L4.out.below.trans (hb22.mono L4.out.below.size))
        have hal := alike_any _ _ _ _ w22 (M4.out.1.on hb22) (M4.out.2.on hb22)
        simp only [decide_true] at hal
        have HAL := Lib.hid hal
        clear hb22 L4 M4 HSA x0 x1 x2 x3 y0 y1 y2 y3 hal
        go_wp2_with fail
        refine HAL.out.mono ?_
        rintro e w23 ⟨rfl, rfl⟩
        clear HAL
        go_wp2_with fail
        refine (awake_any w22).mono ?_
        rintro e w24 ⟨rfl, hb24⟩
        have L24 := Lib.hid (L22.out.trans (hb24.mono L22.out.size))
        clear hb24 L22
        go_wp2_with fail
        go_ret
        exact ⟨rfl, L24.out⟩
      · obtain ⟨e1, e2, e3⟩ := clash_short h7
        rw [e1] at hcl
        have hfe := h7
        have HSV := Lib.hid (And.intro e2 e3)
        clear e1 e2 e3 h7
        have HCON := Lib.hid hcl
        have HFE := Lib.hid hfe
        clear hcl hfe
        go_wp2_with fail
        refine HCON.out.mono ?_
        rintro e w3 ⟨v3, rfl, hv3, hb3⟩
        obtain ⟨a3, q3, rfl, _⟩ := hv3.open
        have L3 := Lib.hid (L2.out.on hb3)
        have M3 := Lib.hid (And.intro (M2.out.1.on hb3) (M2.out.2.on hb3))
        have HV3 := Lib.hid hv3
        clear hb3 L2 M2 HCON x0 x1 x2 x3 hv3
        obtain ⟨x0, x1, x2, x3⟩ := four_cells L3.out.hq
        have HCON := Lib.hid (rfitting_any c _ _ _ _ w3 L3.out.ref)
        rw [rfit_is, HFE.out] at HCON
        go_wp2_with fail
        refine HCON.out.mono ?_
        rintro e w4 ⟨rfl, hb4⟩
        have L4 := Lib.hid (L3.out.on hb4)
        have M4 := Lib.hid (And.intro (M3.out.1.on hb4) (M3.out.2.on hb4))
        have HV4 := Lib.hid (HV3.out.on hb4)
        clear hb4 L3 M3 HV3 HCON x0 x1 x2 x3
        obtain ⟨x0, x1, x2, x3⟩ := four_cells L4.out.hq
        have HCON := Lib.hid (short_any c _ _ _ _ _ (clashV c) w4 L4.out.ref HV4.out).2
        rw [HSV.out.1] at HCON
        have hge := HSV.out.2
        go_wp2_with fail
        refine HCON.out.mono ?_
        rintro e w5 ⟨rfl, hb5⟩
        have L5 := Lib.hid (L4.out.on hb5)
        have M5 := Lib.hid (And.intro (M4.out.1.on hb5) (M4.out.2.on hb5))
        clear hb5 L4 M4 HV4 HCON x0 x1 x2 x3
        obtain ⟨x0, x1, x2, x3⟩ := four_cells L5.out.hp
        obtain ⟨y0, y1, y2, y3⟩ := four_cells L5.out.box
        have HSA := Lib.hid (same_any c _ _ _ _ _ _ _ _ w5 L5.out.own L5.out.arg)
        go_wp2_with fail
        refine HSA.out.mono ?_
        rintro e w22 ⟨rfl, hb22⟩
        have L22 := Lib.hid (L5.out.below.trans (hb22.mono L5.out.below.size))
        have hal := alike_any _ _ _ _ w22 (M5.out.1.on hb22) (M5.out.2.on hb22)
        simp only [decide_true] at hal
        have HAL := Lib.hid hal
        clear hb22 L5 M5 HSA x0 x1 x2 x3 y0 y1 y2 y3 hal
        go_wp2_with fail
        refine HAL.out.mono ?_
        rintro e w23 ⟨rfl, rfl⟩
        clear HAL
        go_wp2_with fail
        refine (awake_any w22).mono ?_
        rintro e w24 ⟨rfl, hb24⟩
        have L24 := Lib.hid (L22.out.trans (hb24.mono L22.out.size))
        clear hb24 L22
        go_wp2_with fail
        go_ret
        exact ⟨rfl, L24.out⟩
      · obtain ⟨e1, e2⟩ := clash_else h0 h7
        rw [e1, e2] at hcl
        have g0 : (fitErr c == 0) = false := by simpa using h0
        have g7 : (fitErr c == 7) = false := by simpa using h7
        clear e1 e2
        have HCON := Lib.hid hcl
        clear hcl
        go_wp2_with fail
        refine HCON.out.mono ?_
        rintro e w3 ⟨v3, rfl, hv3, hb3⟩
        obtain ⟨a3, q3, rfl, _⟩ := hv3.open
        have L3 := Lib.hid (L2.out.on hb3)
        have M3 := Lib.hid (And.intro (M2.out.1.on hb3) (M2.out.2.on hb3))
        have HV3 := Lib.hid hv3
        clear hb3 L2 M2 HCON x0 x1 x2 x3 hv3
        obtain ⟨x0, x1, x2, x3⟩ := four_cells L3.out.hq
        have HCON := Lib.hid (rfitting_any c _ _ _ _ w3 L3.out.ref)
        rw [rfit_is] at HCON
        go_wp2_with fail
        refine HCON.out.mono ?_
        rintro e w4 ⟨rfl, hb4⟩
        have L4 := Lib.hid (L3.out.on hb4)
        have M4 := Lib.hid (And.intro (M3.out.1.on hb4) (M3.out.2.on hb4))
        have HV4 := Lib.hid (HV3.out.on hb4)
        clear hb4 L3 M3 HV3 HCON x0 x1 x2 x3
        obtain ⟨x0, x1, x2, x3⟩ := four_cells L4.out.hp
        obtain ⟨y0, y1, y2, y3⟩ := four_cells L4.out.box
        have HSA := Lib.hid (same_any c _ _ _ _ _ _ _ _ w4 L4.out.own L4.out.arg)
        go_wp2_with fail
        refine HSA.out.mono ?_
        rintro e w22 ⟨rfl, hb22⟩
        have L22 := Lib.hid (L4.out.below.trans (hb22.mono L4.out.below.size))
        have hal := alike_any _ _ _ _ w22 (M4.out.1.on hb22) (M4.out.2.on hb22)
        simp only [decide_true] at hal
        have HAL := Lib.hid hal
        clear hb22 L4 M4 HSA x0 x1 x2 x3 y0 y1 y2 y3 hal
        go_wp2_with fail
        refine HAL.out.mono ?_
        rintro e w23 ⟨rfl, rfl⟩
        clear HAL
        go_wp2_with fail
        refine (awake_any w22).mono ?_
        rintro e w24 ⟨rfl, hb24⟩
        have L24 := Lib.hid (L22.out.trans (hb24.mono L22.out.size))
        clear hb24 L22
        go_wp2_with fail
        go_ret
        exact ⟨rfl, L24.out⟩
end Go.Proofs.Ytnhifinfjfpoiaa

namespace Go.Proofs.Ytnhifinfjfpoiaa
open Go.RowKit Go.ChangeShapes Go.WideShapes Go.ChangeAt

theorem ownKnob_none : ownKnob Try.prog.godebug = none := by kernel_rfl
theorem laidOut_yes : laidOutB Try.prog = true := by kernel_rfl

set_option maxRecDepth 100000 in
theorem ratShort_lifted (os : Os) (started : os.Started) (H : Type) (enc : TypeId × Value → H) :
    ReturnsInHanded {} Try.checked os 6 .any (Rows.ratShortSpec.pre6 enc Try.prog Try.f6 Rows.ratShortRow.domain false) (Rows.ratShortSpec.post enc Try.prog Try.f6 false true false false) := by
  refine returnsInHanded_of_change_sized (C := Try.checked) ownKnob_none started (by kernel_rfl) Try.func6
    (ChangeSpec.witness6 (enc := enc) (C := Try.checked) false ⟨#[], #[.agg #[.slice none 0 0, .slice none 0 0, .slice none 0 0, .slice none 0 0], .slice none 0 0], []⟩ 8 (by kernel_rfl) (by kernel_rfl) (by kernel_rfl) (by kernel_rfl)) ?_
  intro W base args ds gs before hval0 hW0 _ hsz0 _
  have hval : ∀ (j : Nat) t v, Try.f6.params[j]? = some t → args[j]? = some v → Value.okWide Try.prog W .any base t v := hval0
  have hsz : (DataW.weightsEach Try.prog (Try.f6.params.toList ++ Rows.ratShortSpec.plain.varTypes Try.prog) (ds ++ gs)).all (· ≤ reachBytes) = true := hsz0
  have hW := hW0
  obtain ⟨p, q, hA0, hV, rfl, hfz, hnd⟩ := hW
  have hA : DataW.TrodAll enc Try.prog W 0 (fun _ => true) true Try.f6.params.toList args.toList ds p := hA0
  rw [Try.params6] at hA hval hsz
  obtain ⟨v0, v1, d0, d1, p0, p1, rfl, rfl, rfl, h0, h1⟩ := trodAll_two hA
  obtain ⟨rfl, rfl⟩ := trodVars_none hV
  have k0 := h0
  have k1 := h1
  obtain ⟨r, t, u, n, c, rfl, hc⟩ := open_col (hval 0 _ v0 rfl rfl) h0 (fun m hm => by
    have := List.all_eq_true.1 hsz m (DataW.weights_mem_each (j := 0) rfl rfl m hm)
    simpa using this)
  obtain ⟨l1, hl1⟩ := open_list (hval 1 _ v1 rfl rfl) h1 (fun m hm => by
    have := List.all_eq_true.1 hsz m (DataW.weights_mem_each (j := 1) rfl rfl m hm)
    simpa using this)
  refine (ratShort_any c r t u n _ l1 W hc hl1).mono fun e W' ⟨he, hb⟩ => ?_
  subst he
  have hlt0 : ∀ x ∈ p0, x.block < W.heap.size := fun x hx => hW0.lt x (by simp [hx])
  have s0 := Below.trod laidOut_yes (by kernel_rfl) (of_decide_eq_true (by kernel_rfl)) k0 hb hlt0
  have hlt1 : ∀ x ∈ p1, x.block < W.heap.size := fun x hx => hW0.lt x (by simp [hx])
  have s1 := Below.trod laidOut_yes (by kernel_rfl) (of_decide_eq_true (by kernel_rfl)) k1 hb hlt1
  exact ⟨_, rfl, _, _, _, [], _, _, hW0, trodAll_mk1 (shut_bool Try.underlying4 true), trodAll_mk2 s0 s1, rfl, hb.frame _, fun h => by cases h⟩

theorem ratShort_holds : Rows.RatShortSaid :=
  OpenClaim.holds_of_wide 6 Try.f6 rfl rfl rfl rfl rfl rfl rfl ⟨rfl, rfl, rfl, rfl, rfl⟩ rfl rfl rfl rfl rfl (by kernel_rfl) Try.func6 (by kernel_rfl)
    (of_decide_eq_true (by kernel_rfl)) (by unfold Func.isWrapper; first | (rw [if_pos (by decide +kernel)]; kernel_rfl) | (rw [if_neg (by decide +kernel)]; exact ⟨rfl, rfl⟩))
    (fun os started H enc _ => ratShort_lifted os started H enc)
end Go.Proofs.Ytnhifinfjfpoiaa
