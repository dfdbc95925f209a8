/- Contract of the reference's Check: for every colony it answers what checkC says. Contracts of the reference's small functions: goes, house, asked, full, Full. Contract of the reference's Full. Contract of the reference's come: where a rat can be that has come from a house. Contract of the reference's Origins; the origins of both are the same. -/
import Derived.Test.YtnhifinfjfpoiaaGreatK01
import Derived.Test.YtnhifinfjfpoiaaGreatK02
import Derived.Test.YtnhifinfjfpoiaaGreatK10
import Derived.StillTailTactics
namespace Go.Proofs.YtnhifinfjfpoiaaGreat
open Go.RowKit
set_option linter.unusedVariables false

theorem off_out {n lo hi : Int} (h : inB n lo hi = false) (w : World) : Calls Tryz.prog 46 #[.int .i64 n, .int .i64 lo, .int .i64 hi] w fun e w' => e = .returned (.bool true) ∧ w = w' :=
  (off_any n lo hi w).mono (by rintro e w' ⟨rfl, h'⟩; exact ⟨by rw [h]; rfl, h'⟩)
theorem off_in {n lo hi : Int} (h : inB n lo hi = true) (w : World) : Calls Tryz.prog 46 #[.int .i64 n, .int .i64 lo, .int .i64 hi] w fun e w' => e = .returned (.bool false) ∧ w = w' :=
  (off_any n lo hi w).mono (by rintro e w' ⟨rfl, h'⟩; exact ⟨by rw [h]; rfl, h'⟩)
theorem joins_as {p : Int × Int} {a b : Int} {v : Bool} (h : joinsB p a b = v) (w : World) : Calls Tryz.prog 104 #[.agg #[.int .i64 p.1, .int .i64 p.2], .int .i64 a, .int .i64 b] w fun e w' => e = .returned (.bool v) ∧ Below w.heap.size w w' := h ▸ joins_any p a b w


set_option maxHeartbeats 4000000 in
set_option maxRecDepth 100000 in
theorem rcheck_any (c : Col) (r t u n : Value) (w : World) (h : ColAt w w.heap.size r t u n c) :
    Calls Tryz.prog 61 #[.agg #[r, t, u, n]] w fun e w' => e = .returned (.int .i64 (checkC c)) ∧ Below w.heap.size w w' := by
  obtain ⟨hr, ht, hu, hn⟩ := h
  obtain ⟨ar, cr, rfl, r1, r2, r3⟩ := hr.open
  obtain ⟨at_, ct, rfl, t1, t2, t3⟩ := ht.open
  obtain ⟨au, cu, rfl, u1, u2, u3⟩ := hu.open
  obtain ⟨an, cn, rfl, n1, n2, n3⟩ := hn.open
  have R3 := Lib.hid r3; have T3 := Lib.hid t3; have U3 := Lib.hid u3; have N3 := Lib.hid n3; clear r3 t3 u3 n3
  have hBW := (Below.refl w.heap.size w).alloc (Nat.le_refl _) (.cells #[.slice ar c.rooms.length cr, .slice at_ c.traps.length ct, .slice au c.runs.length cu, .slice an c.nights.length cn] 32)
  have HB := Lib.hid hBW
  clear hr ht hu hn hBW
  cases hgood : badCount1 c
  case true =>
    have e : checkC c = 3 := by unfold checkC; rw [if_pos hgood]
    rw [e]; clear e
    by_cases h1 : 1 ≤ c.rooms.length ∧ c.rooms.length ≤ 6
    · have h1' := inB_of (n := c.rooms.length) (lo := 1) (hi := 6) (by omega)
      by_cases h2 : c.traps.length = c.rooms.length
      · have h2a : c.traps.length ≤ c.rooms.length := by omega
        have h2b : c.rooms.length ≤ c.traps.length := by omega
        by_cases h3 : 12 < c.runs.length
        · clear hgood h2 h1'
          go_enter Tryz.func61, Tryz.ntmps61
          go_wp2_with fail
          go_ret
          exact ⟨rfl, HB.out⟩
        · have h4 : 6 < c.nights.length := by simpa [badCount1, h1', h2, h3] using hgood
          clear hgood h2 h1'
          go_enter Tryz.func61, Tryz.ntmps61
          go_wp2_with fail
          go_ret
          exact ⟨rfl, HB.out⟩
      · clear hgood h1'
        go_enter Tryz.func61, Tryz.ntmps61
        go_wp2_with fail
        go_ret
        exact ⟨rfl, HB.out⟩
    · clear hgood
      by_cases h2 : c.rooms.length < 1
      all_goals
        go_enter Tryz.func61, Tryz.ntmps61
        go_wp2_with fail
        go_ret
        exact ⟨rfl, HB.out⟩
  case false =>
    have E1 : checkC c = if badCount2 c then 3 else if badRooms c || badTraps c then 4 else if badNights c then 4 else if badRuns c then 2 else if badTwice c then 5 else 0 := by unfold checkC; rw [if_neg (by rw [hgood]; simp)]
    have HE := Lib.hid E1; clear E1
    obtain ⟨h1, h2, h3, h4⟩ : inB c.rooms.length 1 6 = true ∧ c.traps.length = c.rooms.length ∧ c.runs.length ≤ 12 ∧ c.nights.length ≤ 6 := by
      simpa only [badCount1, Bool.or_eq_false_iff, Bool.not_eq_false', bne_eq_false_iff_eq, decide_eq_false_iff_not, Nat.not_lt, and_assoc] using hgood
    clear hgood
    have h1' := inB_true h1
    have h2a : c.traps.length ≤ c.rooms.length := by omega
    have h2b : c.rooms.length ≤ c.traps.length := by omega
    have h5 : 1 ≤ c.rooms.length := by omega
    have h6 : c.rooms.length ≤ 6 := by omega
    clear h2 h1 h1'
    go_enter Tryz.func61, Tryz.ntmps61
    go_wp2_with fail
    obtain ⟨W1, hW1⟩ : ∃ W1, w.alloc (.cells #[.slice ar c.rooms.length cr, .slice at_ c.traps.length ct, .slice au c.runs.length cu, .slice an c.nights.length cn] 32) = W1 := ⟨_, rfl⟩
    have hz1 : w.heap.size + 1 = W1.heap.size := by rw [← hW1]; simp
    have hbx := box4 (w := w) (w1 := W1) (by rw [hW1]; exact Below.refl _ _)
    rw [hW1] at HB ⊢
    have HBX : Hid (Box4 W1 w.heap.size (.slice ar c.rooms.length cr) (.slice at_ c.traps.length ct) (.slice au c.runs.length cu) (.slice an c.nights.length cn)) := hbx
    obtain ⟨c0, c1, c2, c3⟩ := hbx
    have HZ := Lib.hid hz1
    clear hW1 hz1
    go_loop [4] (fun i => ∃ k : Nat, k ≤ c.nights.length ∧ i = .int .i64 k ∧ Hid (∀ j, j < k → okRow c j = true)) (fun i => c.nights.length - (intOf i).toNat)
    case atStart => exact ⟨0, Nat.zero_le _, rfl, fun j hj => by omega⟩
    case round =>
      obtain ⟨k, hk, rfl, hdone⟩ := hrel
      by_cases hlt : k < c.nights.length
      · obtain ⟨b, off, u, rfl, hbl, hcell, hru⟩ := N3.out k hlt
        obtain ⟨ai, ci, rfl, i1, i2, i3⟩ := hru.open
        have hc1 : W1.cell? ⟨b, off + k, none⟩ = some (.slice ai (nthR c.nights k).length ci) := (HB.out.cell (p := ⟨b, off + k, none⟩) hbl).trans hcell
        clear hcell hru i3
        cases hg : okRow c k
        · have hne : ¬ (nthR c.nights k).length = c.rooms.length := by simpa [okRow] using hg
          go_wp2_with fail
          go_ret
          exact ⟨ret_int (by rw [HE.out, if_pos (by unfold badCount2; rw [allB_false hlt hg]; rfl)]), HB.out⟩
        · have hne : (nthR c.nights k).length = c.rooms.length := by simpa [okRow] using hg
          have hne1 : (nthR c.nights k).length ≤ c.rooms.length := by omega
          have hne2 : c.rooms.length ≤ (nthR c.nights k).length := by omega
          clear hne
          go_wp2_with fail
          go_round
          case rel => exact ⟨k + 1, by omega, by go_num, fun h hh => by rcases Nat.lt_succ_iff_lt_or_eq.1 hh with q | q; exact hdone.out h q; rw [q]; exact hg⟩
          case measure => simp [intOf]; omega
      · have hrows : ∀ i, i < c.nights.length → okRow c i = true := fun i hi => hdone.out i (by omega)
        have g1 : allB (okRow c) c.nights.length = true := allB_true hrows
        have E2 : checkC c = if badRooms c || badTraps c then 4 else if badNights c then 4 else if badRuns c then 2 else if badTwice c then 5 else 0 := by
          rw [HE.out, if_neg (by unfold badCount2; rw [g1]; simp)]
        have HE2 := Lib.hid E2; have HRW := Lib.hid hrows; clear E2 HE hrows hdone g1
        go_wp2_with fail
        go_loop [5] (fun i => ∃ k : Nat, k ≤ c.rooms.length ∧ i = .int .i64 k ∧ Hid (∀ j, j < k → inB (nth c.rooms j) 0 60 = true ∧ inB (nth c.traps j) 0 9 = true)) (fun i => c.rooms.length - (intOf i).toNat)
        case atStart => exact ⟨0, Nat.zero_le _, rfl, fun j hj => by omega⟩
        case round =>
          obtain ⟨k, hk, rfl, hdone⟩ := hrel
          by_cases hlt : k < c.rooms.length
          · obtain ⟨b, off, rfl, hbl, hcell⟩ := R3.out k hlt
            obtain ⟨b2, off2, rfl, hbl2, hcell2⟩ := T3.out k (by omega)
            have hc1 : W1.cell? ⟨b, off + k, none⟩ = some (.int .i64 (nth c.rooms k)) := (HB.out.cell (p := ⟨b, off + k, none⟩) hbl).trans hcell
            have hc2 : W1.cell? ⟨b2, off2 + k, none⟩ = some (.int .i64 (nth c.traps k)) := (HB.out.cell (p := ⟨b2, off2 + k, none⟩) hbl2).trans hcell2
            clear hcell hcell2
            cases hg : inB (nth c.rooms k) 0 60
            · go_wp2_with (go_at_call 46; refine (off_any _ _ _ _).mono ?_; rintro e w' ⟨rfl, rfl⟩)
              go_ret
              exact ⟨ret_int (by rw [HE2.out, if_pos (by unfold badRooms; rw [allB_false (p := fun i => inB (nth c.rooms i) 0 60) hlt hg]; rfl)]), HB.out⟩
            · cases hg2 : inB (nth c.traps k) 0 9
              · go_wp2_with (go_at_call 46; refine (off_any _ _ _ _).mono ?_; rintro e w' ⟨rfl, rfl⟩)
                go_ret
                exact ⟨ret_int (by rw [HE2.out, if_pos (by unfold badTraps; rw [allB_false (p := fun i => inB (nth c.traps i) 0 9) (by omega : k < c.traps.length) hg2]; simp)]), HB.out⟩
              · go_wp2_with (go_at_call 46; refine (off_any _ _ _ _).mono ?_; rintro e w' ⟨rfl, rfl⟩)
                go_round
                case rel => exact ⟨k + 1, by omega, by go_num, fun h hh => by rcases Nat.lt_succ_iff_lt_or_eq.1 hh with q | q; exact hdone.out h q; rw [q]; exact ⟨hg, hg2⟩⟩
                case measure => simp [intOf]; omega
          · have E3 : checkC c = if badNights c then 4 else if badRuns c then 2 else if badTwice c then 5 else 0 := by
              rw [HE2.out, if_neg (by unfold badRooms badTraps; rw [allB_true (p := fun i => inB (nth c.rooms i) 0 60) (fun i hi => (hdone.out i (by omega)).1), allB_true (p := fun i => inB (nth c.traps i) 0 9) (fun i hi => (hdone.out i (by omega)).2)]; simp)]
            have HE3 := Lib.hid E3; clear E3 HE2 hdone
            go_wp2_with fail
            go_loopw [6] (fun i wr => ∃ k : Nat, k ≤ c.nights.length ∧ i = .int .i64 k ∧ Hid (∀ j, j < k → allB (okNight c j) (nthR c.nights j).length = true) ∧ Below (w.heap.size + 1) W1 wr) (fun i _ => c.nights.length - (intOf i).toNat)
            case atStart => exact ⟨0, Nat.zero_le _, rfl, fun j hj => by omega, Below.refl _ _⟩
            case round =>
              clear c0 c1 c2 c3
              obtain ⟨wo, rfl⟩ : ∃ wo : World, wo = wr := ⟨_, rfl⟩
              obtain ⟨k, hk, rfl, hdone, hbr⟩ := hrel
              have HBR := Lib.hid hbr
              obtain ⟨c0, c1, c2, c3⟩ := HBX.out.below hbr (Nat.lt_succ_self _)
              have hW := HB.out.trans (hbr.mono (Nat.le_succ _))
              have HW := Lib.hid hW; clear hbr hW
              by_cases hlt : k < c.nights.length
              · obtain ⟨b, off, u, rfl, hbl, hcell, hru⟩ := N3.out k hlt
                obtain ⟨ai, ci, rfl, i1, i2, i3⟩ := hru.open
                have hlen : (nthR c.nights k).length = c.rooms.length := by simpa [okRow] using HRW.out k hlt
                have hc1 : wo.cell? ⟨b, off + k, none⟩ = some (.slice ai (nthR c.nights k).length ci) := (HW.out.cell (p := ⟨b, off + k, none⟩) hbl).trans hcell
                have HC1 : Hid (b < w.heap.size ∧ w.cell? ⟨b, off + k, none⟩ = some (.slice ai (nthR c.nights k).length ci)) := ⟨hbl, hcell⟩
                have I3 := Lib.hid i3; have HL := Lib.hid hlen
                have hl1 : (nthR c.nights k).length ≤ c.rooms.length := by omega
                have hl2 : c.rooms.length ≤ (nthR c.nights k).length := by omega
                clear hcell hru i3 hlen
                go_wp2_with fail
                go_loopw [7] (fun i wr => ∃ j : Nat, j ≤ c.rooms.length ∧ i = .int .i64 j ∧ Hid (∀ h, h < j → okNight c k h = true) ∧ Below (w.heap.size + 1) W1 wr) (fun i _ => c.rooms.length - (intOf i).toNat)
                case atStart => exact ⟨0, Nat.zero_le _, rfl, fun j hj => by omega, HBR.out⟩
                case round =>
                  clear c0 c1 c2 c3 hc1 HW HBR
                  obtain ⟨j, hj, rfl, hin, hbr⟩ := hrel
                  have HBR := Lib.hid hbr
                  obtain ⟨c0, c1, c2, c3⟩ := HBX.out.below hbr (Nat.lt_succ_self _)
                  have hW := HB.out.trans (hbr.mono (Nat.le_succ _))
                  have HW := Lib.hid hW; clear hbr hW
                  by_cases hjl : j < c.rooms.length
                  · obtain ⟨b2, off2, rfl, hbl2, hcell2⟩ := I3.out j (by omega)
                    obtain ⟨b3, off3, rfl, hbl3, hcell3⟩ := T3.out j (by omega)
                    have hc1 := (HW.out.cell (p := ⟨b, off + k, none⟩) HC1.out.1).trans HC1.out.2
                    have hc2 : wr.cell? ⟨b2, off2 + j, none⟩ = some (.int .i64 (nth (nthR c.nights k) j)) := (HW.out.cell (p := ⟨b2, off2 + j, none⟩) hbl2).trans hcell2
                    have hc3 : wr.cell? ⟨b3, off3 + j, none⟩ = some (.int .i64 (nth c.traps j)) := (HW.out.cell (p := ⟨b3, off3 + j, none⟩) hbl3).trans hcell3
                    clear hcell2 hcell3
                    have hj1 : j < (nthR c.nights k).length := by omega
                    have hj2 : j < c.traps.length := by omega
                    cases hg : inB (nth (nthR c.nights k) j) 0 (nth c.traps j)
                    · go_wp2_with fail
                      go_quiet ((go_at_call 46; exact quiet_same (off_out hg _)))
                      go_wp2_with fail
                      go_ret
                      exact ⟨ret_int (by rw [HE3.out, if_pos (by unfold badNights; rw [allB_false (p := fun i => allB (okNight c i) (nthR c.nights i).length) hlt (allB_false hj1 hg)]; rfl)]), HW.out.trans (below_drewN _ _)⟩
                    · go_wp2_with fail
                      go_quiet ((go_at_call 46; exact quiet_same (off_in hg _)))
                      go_wp2_with fail
                      go_roundw
                      case rel => exact ⟨j + 1, by omega, by go_num, fun h hh => by rcases Nat.lt_succ_iff_lt_or_eq.1 hh with q | q; exact hin.out h q; rw [q]; exact hg, HBR.out.trans (below_drewN _ _)⟩
                      case measure => simp [intOf]; omega
                  · go_wp2_with fail
                    go_roundw
                    case rel => exact ⟨k + 1, by omega, by go_num, fun i hi => by rcases Nat.lt_succ_iff_lt_or_eq.1 hi with q | q; exact hdone.out i q; rw [q]; exact allB_true (fun h hh => hin.out h (by omega)), HBR.out⟩
                    case measure => simp [intOf]; omega
              · have E4 : checkC c = if badRuns c then 2 else if badTwice c then 5 else 0 := by
                  rw [HE3.out, if_neg (by unfold badNights; rw [allB_true (p := fun i => allB (okNight c i) (nthR c.nights i).length) (fun i hi => hdone.out i (by omega))]; simp)]
                have HE4 := Lib.hid E4; clear E4 HE3 hdone
                go_wp2_with fail
                go_loopw [8] (fun i wr => ∃ k : Nat, k ≤ c.runs.length ∧ i = .int .i64 k ∧ Hid (∀ j, j < k → okRun c j = true) ∧ Below (w.heap.size + 1) W1 wr) (fun i _ => c.runs.length - (intOf i).toNat)
                case atStart => exact ⟨0, Nat.zero_le _, rfl, fun j hj => by omega, HBR.out⟩
                case round =>
                  clear c0 c1 c2 c3 HW HBR
                  obtain ⟨k, hk, rfl, hdone, hbr⟩ := hrel
                  have HBR := Lib.hid hbr
                  obtain ⟨c0, c1, c2, c3⟩ := HBX.out.below hbr (Nat.lt_succ_self _)
                  have hW := HB.out.trans (hbr.mono (Nat.le_succ _))
                  have HW := Lib.hid hW; clear hbr hW
                  by_cases hlt : k < c.runs.length
                  · obtain ⟨b, off, rfl, hbl, hcA, hcB⟩ := U3.out k hlt
                    have hc1 : wr.cell? ⟨b, off + k * 2, none⟩ = some (.int .i64 (nthP c.runs k).1) := (HW.out.cell (p := ⟨b, off + k * 2, none⟩) hbl).trans hcA
                    have hc2 : wr.cell? ⟨b, off + k * 2 + 1, none⟩ = some (.int .i64 (nthP c.runs k).2) := (HW.out.cell (p := ⟨b, off + k * 2 + 1, none⟩) hbl).trans hcB
                    clear hcA hcB
                    cases hg1 : inB (nthP c.runs k).1 0 (c.rooms.length - 1)
                    · go_wp2_with (go_at_call 46; refine (off_any _ _ _ _).mono ?_; rintro e w' ⟨rfl, rfl⟩)
                      go_ret
                      exact ⟨ret_int (by rw [HE4.out, if_pos (by unfold badRuns; rw [allB_false (p := okRun c) hlt (by unfold okRun; rw [hg1]; rfl)]; rfl)]), HW.out⟩
                    · cases hg2 : inB (nthP c.runs k).2 0 (c.rooms.length - 1)
                      · go_wp2_with (go_at_call 46; refine (off_any _ _ _ _).mono ?_; rintro e w' ⟨rfl, rfl⟩)
                        go_ret
                        exact ⟨ret_int (by rw [HE4.out, if_pos (by unfold badRuns; rw [allB_false (p := okRun c) hlt (by unfold okRun; rw [hg1, hg2]; rfl)]; rfl)]), HW.out⟩
                      · go_wp2_with (go_at_call 46; refine (off_any _ _ _ _).mono ?_; rintro e w' ⟨rfl, rfl⟩)
                        go_roundw
                        case rel => exact ⟨k + 1, by omega, by go_num, fun h hh => by rcases Nat.lt_succ_iff_lt_or_eq.1 hh with q | q; exact hdone.out h q; rw [q]; unfold okRun; rw [hg1, hg2]; rfl, HBR.out⟩
                        case measure => simp [intOf]; omega
                  · have E5 : checkC c = if badTwice c then 5 else 0 := by
                      rw [HE4.out, if_neg (by unfold badRuns; rw [allB_true (p := okRun c) (fun i hi => hdone.out i (by omega))]; simp)]
                    have HE5 := Lib.hid E5; clear E5 HE4 hdone
                    go_wp2_with fail
                    go_loopw [9] (fun i wr => ∃ k : Nat, k ≤ c.runs.length ∧ i = .int .i64 k ∧ Hid (∀ j, j < k → okTwice c j = true) ∧ Below (w.heap.size + 1) W1 wr) (fun i _ => c.runs.length - (intOf i).toNat)
                    case atStart => exact ⟨0, Nat.zero_le _, rfl, fun j hj => by omega, HBR.out⟩
                    case round =>
                      clear c0 c1 c2 c3 HW HBR
                      obtain ⟨wo, rfl⟩ : ∃ wo : World, wo = wr := ⟨_, rfl⟩
                      obtain ⟨k, hk, rfl, hdone, hbr⟩ := hrel
                      have HBR := Lib.hid hbr
                      obtain ⟨c0, c1, c2, c3⟩ := HBX.out.below hbr (Nat.lt_succ_self _)
                      have hW := HB.out.trans (hbr.mono (Nat.le_succ _))
                      have HW := Lib.hid hW; clear hbr hW
                      by_cases hlt : k < c.runs.length
                      · obtain ⟨b, off, rfl, hbl, hcA, hcB⟩ := U3.out k hlt
                        have hc1 : wo.cell? ⟨b, off + k * 2, none⟩ = some (.int .i64 (nthP c.runs k).1) := (HW.out.cell (p := ⟨b, off + k * 2, none⟩) hbl).trans hcA
                        have hc2 : wo.cell? ⟨b, off + k * 2 + 1, none⟩ = some (.int .i64 (nthP c.runs k).2) := (HW.out.cell (p := ⟨b, off + k * 2 + 1, none⟩) hbl).trans hcB
                        have HC := Lib.hid (And.intro hcA hcB)
                        clear hcA hcB
                        have bad : okTwice c k = false → checkC c = 5 := fun h => by rw [HE5.out, if_pos (by unfold badTwice; rw [allB_false hlt h]; rfl)]
                        have HBAD := Lib.hid bad; clear bad
                        cases hd : ((nthP c.runs k).1 == (nthP c.runs k).2)
                        · go_wp2_with fail
                          go_quiet (fail)
                          go_wp2_with fail
                          go_loopw [10] (fun i wr => ∃ j : Nat, j ≤ k ∧ i = .int .i64 j ∧ Hid (∀ h, h < j → joinsB (nthP c.runs h) (nthP c.runs k).1 (nthP c.runs k).2 = false) ∧ Below (w.heap.size + 1) W1 wr) (fun i _ => k - (intOf i).toNat)
                          case atStart => exact ⟨0, Nat.zero_le _, rfl, fun j hj => by omega, HBR.out.trans (below_drewN _ _)⟩
                          case round =>
                            clear c0 c1 c2 c3 hc1 hc2 HW HBR
                            obtain ⟨j, hj, rfl, hin, hbr⟩ := hrel
                            have HBR := Lib.hid hbr
                            obtain ⟨c0, c1, c2, c3⟩ := HBX.out.below hbr (Nat.lt_succ_self _)
                            have hW := HB.out.trans (hbr.mono (Nat.le_succ _))
                            have HW := Lib.hid hW; clear hbr hW
                            by_cases hjl : j < k
                            · obtain ⟨b', off', he, hbl', hcA, hcB⟩ := U3.out j (by omega)
                              obtain ⟨rfl, rfl⟩ : b' = b ∧ off' = off := by simp at he; omega
                              clear he
                              have hc1 : wr.cell? ⟨b', off' + k * 2, none⟩ = some (.int .i64 (nthP c.runs k).1) := (HW.out.cell (p := ⟨b', off' + k * 2, none⟩) hbl).trans HC.out.1
                              have hc2 : wr.cell? ⟨b', off' + k * 2 + 1, none⟩ = some (.int .i64 (nthP c.runs k).2) := (HW.out.cell (p := ⟨b', off' + k * 2 + 1, none⟩) hbl).trans HC.out.2
                              have hc3 : wr.cell? ⟨b', off' + j * 2, none⟩ = some (.int .i64 (nthP c.runs j).1) := (HW.out.cell (p := ⟨b', off' + j * 2, none⟩) hbl).trans hcA
                              have hc4 : wr.cell? ⟨b', off' + j * 2 + 1, none⟩ = some (.int .i64 (nthP c.runs j).2) := (HW.out.cell (p := ⟨b', off' + j * 2 + 1, none⟩) hbl).trans hcB
                              clear hcA hcB
                              have hjr : j < c.runs.length := by omega
                              have hsz := HW.out.size
                              cases hjn : joinsB (nthP c.runs j) (nthP c.runs k).1 (nthP c.runs k).2
                              · go_wp2_with fail
                                go_still_tail 17, (by kernel_rfl)
                                go_wp2_with (go_at_call 104; refine (joins_as hjn _).mono ?_; rintro e w2 ⟨rfl, hb2⟩)
                                go_roundw
                                case rel => exact ⟨j + 1, by omega, by go_num, fun h hh => by rcases Nat.lt_succ_iff_lt_or_eq.1 hh with q | q; exact hin.out h q; rw [q]; exact hjn, HBR.out.trans ((Below.drew (Below.refl _ _)).trans (hb2.mono (by have := HBR.out.size; have := HZ.out; simp; omega)))⟩
                                case measure => simp [intOf]; omega
                              · go_wp2_with fail
                                go_still_tail 17, (by kernel_rfl)
                                go_wp2_with (go_at_call 104; refine (joins_as hjn _).mono ?_; rintro e w2 ⟨rfl, hb2⟩)
                                go_ret
                                exact ⟨ret_int (HBAD.out (by unfold okTwice; rw [allB_false (p := fun k' => !joinsB (nthP c.runs k') (nthP c.runs k).1 (nthP c.runs k).2) hjl (by rw [hjn]; rfl)]; simp)).symm, HW.out.trans ((Below.drew (Below.refl _ _)).trans (hb2.mono hsz))⟩
                            · go_wp2_with fail
                              go_roundw
                              case rel => exact ⟨k + 1, by omega, by go_num, fun h hh => by rcases Nat.lt_succ_iff_lt_or_eq.1 hh with q | q; exact hdone.out h q; rw [q]; unfold okTwice; rw [allB_true (fun i hi => by rw [hin.out i (by omega)]; rfl)]; simp [bne, hd], HBR.out⟩
                              case measure => simp [intOf]; omega
                        · go_wp2_with fail
                          go_quiet (fail)
                          go_wp2_with fail
                          go_ret
                          exact ⟨ret_int (HBAD.out (by unfold okTwice; simp [bne, hd])).symm, HW.out.trans (below_drewN _ _)⟩
                      · go_wp2_with fail
                        go_ret
                        exact ⟨ret_int (by rw [HE5.out, if_neg (by unfold badTwice; rw [allB_true (fun i hi => hdone.out i (by omega))]; simp)]), HW.out⟩
end Go.Proofs.YtnhifinfjfpoiaaGreat

namespace Go.Proofs.YtnhifinfjfpoiaaGreat
open Go.RowKit
set_option linter.unusedVariables false


set_option maxHeartbeats 1000000 in
theorem goes_any (c : Col) (r t u n : Value) (a b : Int) (w : World) (h : ColAt w w.heap.size r t u n c) :
    Calls Tryz.prog 99 #[.agg #[r, t, u, n], .int .i64 a, .int .i64 b] w fun e w' => e = .returned (.bool (goesI c a b)) ∧ Below w.heap.size w w' := by
  obtain ⟨hr, ht, hu, hn⟩ := h
  obtain ⟨ar, cr, rfl, _, _, _⟩ := hr.open
  obtain ⟨at_, ct, rfl, _, _, _⟩ := ht.open
  obtain ⟨au, cu, rfl, u1, u2, u3⟩ := hu.open
  obtain ⟨an, cn, rfl, _, _, _⟩ := hn.open
  have U3 := Lib.hid u3
  have hBW := (Below.refl w.heap.size w).alloc (Nat.le_refl _) (.cells #[.slice ar c.rooms.length cr, .slice at_ c.traps.length ct, .slice au c.runs.length cu, .slice an c.nights.length cn] 32)
  have HB := Lib.hid hBW
  have HBX := Lib.hid (Box4.new w (.slice ar c.rooms.length cr) (.slice at_ c.traps.length ct) (.slice au c.runs.length cu) (.slice an c.nights.length cn) 32)
  clear hr ht hu hn hBW u3
  go_enter Tryz.func99, Tryz.ntmps99
  go_wp2_with fail
  obtain ⟨W1, hW1⟩ : ∃ W1, w.alloc (.cells #[.slice ar c.rooms.length cr, .slice at_ c.traps.length ct, .slice au c.runs.length cu, .slice an c.nights.length cn] 32) = W1 := ⟨_, rfl⟩
  have hz1 : w.heap.size + 1 = W1.heap.size := by rw [← hW1]; simp
  rw [hW1] at HB HBX ⊢
  have HZ := Lib.hid hz1
  clear hW1 hz1
  go_loopw [7] (fun i wr => ∃ k : Nat, k ≤ c.runs.length ∧ i = .int .i64 k ∧ Hid (∀ j, j < k → joinsB (nthP c.runs j) a b = false) ∧ Below (w.heap.size + 1) W1 wr) (fun i _ => c.runs.length - (intOf i).toNat)
  case atStart => exact ⟨0, Nat.zero_le _, rfl, fun j hj => by omega, Below.refl _ _⟩
  case round =>
    obtain ⟨k, hk, rfl, hdone, hbr⟩ := hrel
    have HBR := Lib.hid hbr
    obtain ⟨c0, c1, c2, c3⟩ := HBX.out.below hbr (Nat.lt_succ_self _)
    have hW := HB.out.trans (hbr.mono (Nat.le_succ _))
    have HW := Lib.hid hW; clear hbr hW
    by_cases hlt : k < c.runs.length
    · obtain ⟨b0, off, rfl, hbl, hcA, hcB⟩ := U3.out k hlt
      have hc1 : wr.cell? ⟨b0, off + k * 2, none⟩ = some (.int .i64 (nthP c.runs k).1) := (HW.out.cell (p := ⟨b0, off + k * 2, none⟩) hbl).trans hcA
      have hc2 : wr.cell? ⟨b0, off + k * 2 + 1, none⟩ = some (.int .i64 (nthP c.runs k).2) := (HW.out.cell (p := ⟨b0, off + k * 2 + 1, none⟩) hbl).trans hcB
      clear hcA hcB
      have hsz := HW.out.size
      cases hg : joinsB (nthP c.runs k) a b
      · go_wp2_with (go_at_call 104; refine (joins_as hg _).mono ?_; rintro e w2 ⟨rfl, hb2⟩)
        go_roundw
        case rel => exact ⟨k + 1, by omega, by go_num, fun h hh => by rcases Nat.lt_succ_iff_lt_or_eq.1 hh with q | q; exact hdone.out h q; rw [q]; exact hg, HBR.out.trans (hb2.mono (by have := HBR.out.size; have := HZ.out; omega))⟩
        case measure => simp [intOf]; omega
      · go_wp2_with (go_at_call 104; refine (joins_as hg _).mono ?_; rintro e w2 ⟨rfl, hb2⟩)
        go_ret
        exact ⟨ret_bool (by unfold goesI; rw [anyB_true hlt hg]; rfl), HW.out.trans (hb2.mono hsz)⟩
    · go_wp2_with fail
      go_ret
      exact ⟨ret_bool (by unfold goesI; rw [anyB_false (fun i hi => hdone.out i (by omega))]; simp), HW.out⟩


theorem rhouse_any (c : Col) (r t u n : Value) (h : Int) (w : World) (hc : ColAt w w.heap.size r t u n c) :
    Calls Tryz.prog 45 #[.agg #[r, t, u, n], .int .i64 h] w fun e w' => e = .returned (.int .i64 (houseErr c h)) ∧ Below w.heap.size w w' := by
  have hBW := (Below.refl w.heap.size w).alloc (Nat.le_refl _) (.cells #[r, t, u, n] 32)
  have HCK := Lib.hid (rcheck_any c r t u n _ ((hc.below hBW (Nat.le_refl _)).mono (by simp)))
  obtain ⟨hr, ht, hu, hn⟩ := hc
  obtain ⟨ar, cr, rfl, _, r2, _⟩ := hr.open
  obtain ⟨at_, ct, rfl, _, _, _⟩ := ht.open
  obtain ⟨au, cu, rfl, _, _, _⟩ := hu.open
  obtain ⟨an, cn, rfl, _, _, _⟩ := hn.open
  have HB := Lib.hid hBW
  clear hr ht hu hn hBW
  by_cases hk : checkC c = 0
  · rw [hk] at HCK
    have HK := Lib.hid hk; clear hk
    cases hg : inB h 0 (c.rooms.length - 1)
    all_goals
      go_enter Tryz.func45, Tryz.ntmps45
      go_wp2_with fail
      refine HCK.out.mono ?_
      rintro e w1 ⟨rfl, hb1⟩
      simp only [World.size_alloc] at hb1
      obtain ⟨c0, c1, c2, c3⟩ := box4 hb1
      have HB1 := Lib.hid hb1; clear hb1
    · go_wp2_with (go_at_call 46; refine (off_out hg _).mono ?_; rintro e w' ⟨rfl, rfl⟩)
      go_ret
      exact ⟨ret_int (by unfold houseErr; rw [if_pos HK.out, hg]; rfl), HB.out.trans (HB1.out.mono (by omega))⟩
    · go_wp2_with (go_at_call 46; refine (off_in hg _).mono ?_; rintro e w' ⟨rfl, rfl⟩)
      go_ret
      exact ⟨ret_int (by unfold houseErr; rw [if_pos HK.out, hg]; rfl), HB.out.trans (HB1.out.mono (by omega))⟩
  · have hk1 : (checkC c == 0) = false := by simpa using hk
    have hk2 : (checkC c != 0) = true := by simp [bne, hk1]
    have HK := Lib.hid hk; clear hk
    go_enter Tryz.func45, Tryz.ntmps45
    go_wp2_with fail
    refine HCK.out.mono ?_
    rintro e w1 ⟨rfl, hb1⟩
    go_wp2_with fail
    go_ret
    exact ⟨ret_int (by unfold houseErr; rw [if_neg HK.out]), HB.out.trans (hb1.mono (by simp))⟩

theorem rasked_any (c : Col) (r t u n : Value) (h m : Int) (w : World) (hc : ColAt w w.heap.size r t u n c) :
    Calls Tryz.prog 105 #[.agg #[r, t, u, n], .int .i64 h, .int .i64 m] w fun e w' => e = .returned (.int .i64 (askedErr c h m)) ∧ Below w.heap.size w w' := by
  have hBW := (Below.refl w.heap.size w).alloc (Nat.le_refl _) (.cells #[r, t, u, n] 32)
  have HCK := Lib.hid (rhouse_any c r t u n h _ ((hc.below hBW (Nat.le_refl _)).mono (by simp)))
  obtain ⟨hr, ht, hu, hn⟩ := hc
  obtain ⟨ar, cr, rfl, _, r2, _⟩ := hr.open
  obtain ⟨at_, ct, rfl, _, _, _⟩ := ht.open
  obtain ⟨au, cu, rfl, _, _, _⟩ := hu.open
  obtain ⟨an, cn, rfl, _, n2, _⟩ := hn.open
  have HB := Lib.hid hBW
  clear hr ht hu hn hBW
  by_cases hk : houseErr c h = 0
  · rw [hk] at HCK
    have hk0 : checkC c = 0 ∧ inB h 0 (c.rooms.length - 1) = true := by
      unfold houseErr at hk
      by_cases q : checkC c = 0
      · rw [if_pos q] at hk
        cases q2 : inB h 0 (c.rooms.length - 1)
        · rw [q2] at hk; cases hk
        · exact ⟨q, rfl⟩
      · rw [if_neg q] at hk; exact absurd hk q
    have HK := Lib.hid hk0; clear hk hk0
    cases hg : inB m 0 (c.nights.length - 1)
    all_goals
      go_enter Tryz.func105, Tryz.ntmps105
      go_wp2_with fail
      refine HCK.out.mono ?_
      rintro e w1 ⟨rfl, hb1⟩
      simp only [World.size_alloc] at hb1
      obtain ⟨c0, c1, c2, c3⟩ := box4 hb1
      have HB1 := Lib.hid hb1; clear hb1
    · go_wp2_with (go_at_call 46; refine (off_out hg _).mono ?_; rintro e w' ⟨rfl, rfl⟩)
      go_ret
      exact ⟨ret_int (by unfold askedErr; rw [if_pos HK.out.1, HK.out.2, hg]; rfl), HB.out.trans (HB1.out.mono (by omega))⟩
    · go_wp2_with (go_at_call 46; refine (off_in hg _).mono ?_; rintro e w' ⟨rfl, rfl⟩)
      go_ret
      exact ⟨ret_int (by unfold askedErr; rw [if_pos HK.out.1, HK.out.2, hg]; rfl), HB.out.trans (HB1.out.mono (by omega))⟩
  · have hk1 : (houseErr c h == 0) = false := by simpa using hk
    have hk2 : (houseErr c h != 0) = true := by simp [bne, hk1]
    have he : askedErr c h m = houseErr c h := by
      unfold houseErr at hk ⊢
      unfold askedErr
      by_cases q : checkC c = 0
      · rw [if_pos q] at hk
        rw [if_pos q, if_pos q]
        cases q2 : inB h 0 (c.rooms.length - 1)
        · rfl
        · rw [q2] at hk; exact absurd rfl hk
      · rw [if_neg q, if_neg q]
    have HK := Lib.hid he; clear hk he
    go_enter Tryz.func105, Tryz.ntmps105
    go_wp2_with fail
    refine HCK.out.mono ?_
    rintro e w1 ⟨rfl, hb1⟩
    go_wp2_with fail
    go_ret
    exact ⟨ret_int HK.out.symm, HB.out.trans (hb1.mono (by simp))⟩


theorem rfull_any (c : Col) (r t u n : Value) (h m : Nat) (w : World) (hc : ColAt w w.heap.size r t u n c) (hm : m < c.nights.length) (hh : h < (nthR c.nights m).length) (ht : h < c.traps.length) :
    Calls Tryz.prog 106 #[.agg #[r, t, u, n], .int .i64 h, .int .i64 m] w fun e w' => e = .returned (.bool (fullB c h m)) ∧ Below w.heap.size w w' := by
  have hBW := (Below.refl w.heap.size w).alloc (Nat.le_refl _) (.cells #[r, t, u, n] 32)
  obtain ⟨hr, htr, hu, hn⟩ := hc.below hBW (Nat.le_refl _)
  obtain ⟨ar, cr, rfl, _, r2, _⟩ := hr.open
  obtain ⟨at_, ct, rfl, _, t2, t3⟩ := htr.open
  obtain ⟨au, cu, rfl, _, _, _⟩ := hu.open
  obtain ⟨an, cn, rfl, _, n2, n3⟩ := hn.open
  obtain ⟨b, off, v, rfl, hbl, hcell, hrow⟩ := n3 m hm
  obtain ⟨ai, ci, rfl, i1, i2, i3⟩ := hrow.open
  obtain ⟨b2, off2, rfl, hbl2, hcell2⟩ := i3 h hh
  obtain ⟨b3, off3, rfl, hbl3, hcell3⟩ := t3 h ht
  have HB := Lib.hid hBW
  clear hr htr hu hn hBW hc n3 i3 t3 hrow
  go_enter Tryz.func106, Tryz.ntmps106
  go_wp2_with fail
  obtain ⟨W1, hW1⟩ : ∃ W1, w.alloc (.cells #[.slice ar c.rooms.length cr, .slice (some ⟨b3, off3, none⟩) c.traps.length ct, .slice au c.runs.length cu, .slice (some ⟨b, off, none⟩) c.nights.length cn] 32) = W1 := ⟨_, rfl⟩
  obtain ⟨c0, c1, c2, c3⟩ := Box4.new w (.slice ar c.rooms.length cr) (.slice (some ⟨b3, off3, none⟩) c.traps.length ct) (.slice au c.runs.length cu) (.slice (some ⟨b, off, none⟩) c.nights.length cn) 32
  rw [hW1] at HB hcell hcell2 hcell3 c0 c1 c2 c3 ⊢
  clear hW1
  go_quiet (fail)
  go_wp2_with fail
  go_ret
  exact ⟨rfl, HB.out.trans (below_drewN _ _)⟩
end Go.Proofs.YtnhifinfjfpoiaaGreat

namespace Go.Proofs.YtnhifinfjfpoiaaGreat
open Go.RowKit
set_option linter.unusedVariables false

theorem rFull_any (c : Col) (r t u n : Value) (h m : Int) (w : World) (hc : ColAt w w.heap.size r t u n c) :
    Calls Tryz.prog 62 #[.agg #[r, t, u, n], .int .i64 h, .int .i64 m] w fun e w' => e = .returned (.tuple #[.bool (fullV c h m), .int .i64 (askedErr c h m)]) ∧ Below w.heap.size w w' := by
  have hBW := (Below.refl w.heap.size w).alloc (Nat.le_refl _) (.cells #[r, t, u, n] 32)
  have hcol := ((hc.below hBW (Nat.le_refl _)).mono (B' := (w.alloc (.cells #[r, t, u, n] 32)).heap.size) (by simp))
  have HC := Lib.hid hcol
  have HCK := Lib.hid (rasked_any c _ _ _ _ h m _ hcol)
  have HC0 := Lib.hid hc; clear hcol
  obtain ⟨hr, htr, hu, hn⟩ := hc
  obtain ⟨ar, cr, rfl, _⟩ := hr.open
  obtain ⟨at_, ct, rfl, _⟩ := htr.open
  obtain ⟨au, cu, rfl, _⟩ := hu.open
  obtain ⟨an, cn, rfl, _⟩ := hn.open
  have HB := Lib.hid hBW
  clear hr htr hu hn hBW
  by_cases q : askedErr c h m = 0
  · obtain ⟨ok, H, M, rfl, rfl, hH, hM⟩ := asked_in q
    have e : fullV c H M = fullB c H M := by unfold fullV; rw [if_pos q]; rfl
    rw [q] at HCK
    rw [e, q]
    have h1 := ok.row M hM
    have h2 := ok.traps
    have HH := Lib.hid (And.intro h1 h2)
    clear q e ok h1 h2
    go_enter Tryz.func62, Tryz.ntmps62
    go_wp2_with fail
    refine HCK.out.mono ?_
    rintro e w1 ⟨rfl, hb1⟩
    simp only [World.size_alloc] at hb1
    obtain ⟨c0, c1, c2, c3⟩ := box4 hb1
    have HB1 := Lib.hid (HB.out.trans (hb1.mono (by omega))); clear hb1
    go_wp2_with (go_at_call 106; refine (rfull_any c _ _ _ _ H M _ ((HC0.out.below HB1.out (Nat.le_refl _)).mono HB1.out.size) hM (by have := HH.out; omega) (by have := HH.out; omega)).mono ?_; rintro e w' ⟨rfl, hb2⟩)
    go_ret2
    exact ⟨rfl, HB1.out.trans (hb2.mono HB1.out.size)⟩
  · have e : fullV c h m = false := by unfold fullV; rw [if_neg q]
    rw [e]
    have hk1 : (askedErr c h m == 0) = false := by simpa using q
    have hk2 : (askedErr c h m != 0) = true := by simp [bne, hk1]
    clear q e HC
    go_enter Tryz.func62, Tryz.ntmps62
    go_wp2_with fail
    refine HCK.out.mono ?_
    rintro e w1 ⟨rfl, hb1⟩
    go_wp2_with fail
    go_ret2
    exact ⟨rfl, HB.out.trans (hb1.mono (by simp))⟩
end Go.Proofs.YtnhifinfjfpoiaaGreat

namespace Go.Proofs.YtnhifinfjfpoiaaGreat
open Go.RowKit
set_option linter.unusedVariables false
set_option linter.unusedSimpArgs false

def comeC (c : Col) (f n : Nat) : List Bool := (List.range c.rooms.length).map (comeB c f n)

/-- The cells of a list of truth values. -/
def bw (xs : List Bool) : Array Value := (xs.map Value.bool).toArray
def BoolsAt (w : World) (b : Nat) (xs : List Bool) : Prop := w.heap[b]? = some (.cells (bw xs) 4 (0, 0))
theorem bw_set (xs : List Bool) (j : Nat) (x : Bool) : (bw xs).setIfInBounds j (.bool x) = bw (xs.set j x) := by
  unfold bw; simp [List.map_set]
theorem BoolsAt.cell {w : World} {b : Nat} {xs : List Bool} (h : BoolsAt w b xs) (j : Nat) (hj : j < xs.length) : w.cell? ⟨b, j, none⟩ = some (.bool (nthB xs j)) := by
  refine (cell_of_row w b j _ _ _ h).trans ?_
  unfold bw; simp [nthB, hj]
theorem BoolsAt.free {w : World} {b : Nat} {xs : List Bool} (h : BoolsAt w b xs) (j : Nat) : w.frozen? ⟨b, j, none⟩ = false := frozen_of_row w b j _ _ h
theorem BoolsAt.set {w : World} {b : Nat} {xs : List Bool} (h : BoolsAt w b xs) (j : Nat) (x : Bool) : BoolsAt (w.setCell ⟨b, j, none⟩ (.bool x)) b (xs.set j x) := by
  unfold BoolsAt; rw [heap_setCell_same w b j _ _ _ h, bw_set]
theorem infoBool : (Tryz.prog.info? 4).map (fun i => (i.zero, i.size, i.bytes)) = some (some (.bool false), 1, 1) := by kernel_rfl
theorem made_bools (n : Nat) : madeCells (Value.cells (.bool false)) n = bw (List.replicate n false) := by
  unfold madeCells bw
  refine Array.ext (by simp) fun i h1 h2 => ?_
  have e : (Value.cells (.bool false)).size = 1 := rfl
  simp [e, Nat.mod_one]
  rfl
theorem make_bools (n : Nat) (hn : n ≤ 100) (w : World) : (Instr.makeSlice 86 (.int .i64 (n : Int)) (.int .i64 (n : Int))).run Tryz.prog w = .ok (.slice (some ⟨w.heap.size, 0, none⟩) n n) (w.alloc (.cells (bw (List.replicate n false)) 4)) := by
  obtain ⟨i0, hi, hz0, hz1, hz2⟩ := info_parts infoBool
  have hb : (i0.bytes : Int) * (n : Int) ≤ 281474976710656 := by rw [hz2]; omega
  have h := run_make (P := Tryz.prog) w 86 4 i0 (.bool false) Tryz.underlying86 hi hz0 .i64 .i64 n n (Int.natCast_nonneg n) (Int.le_refl _) hb (by omega)
  rw [hz1, Int.toNat_natCast, Nat.mul_one, made_bools] at h
  exact h
def nextB (c : Col) (f n a j : Nat) : Bool := comeB c f n a && fullB c a n && goesB c a j
def nextAB (c : Col) (f n a b : Nat) : List Bool := (List.range c.rooms.length).map fun j => anyB (fun a' => nextB c f n a' j) a || (decide (j < b) && nextB c f n a j)
theorem nextAB_len (c : Col) (f n a b : Nat) : (nextAB c f n a b).length = c.rooms.length := by simp [nextAB]
theorem nextAB_zero (c : Col) (f n : Nat) : nextAB c f n 0 0 = List.replicate c.rooms.length false := by
  unfold nextAB
  refine List.ext_getElem (by simp) fun i h1 h2 => ?_
  simp [anyB]
theorem nextAB_row (c : Col) (f n a : Nat) : nextAB c f n a c.rooms.length = nextAB c f n (a + 1) 0 := by
  unfold nextAB
  refine List.map_congr_left fun j hj => ?_
  have hj' := List.mem_range.1 hj
  rw [anyB_succ]; simp [hj']
theorem nextAB_all (c : Col) (f n : Nat) : nextAB c f n c.rooms.length 0 = comeC c f (n + 1) := by
  unfold nextAB comeC
  refine List.map_congr_left fun j hj => ?_
  simp [comeB, nextB]
theorem nextAB_get {c : Col} {f n a b i : Nat} (h : i < (nextAB c f n a b).length) : (nextAB c f n a b)[i] = (anyB (fun a' => nextB c f n a' i) a || (decide (i < b) && nextB c f n a i)) := by simp [nextAB]
theorem nextAB_yes {c : Col} {f n a b : Nat} (hb : b < c.rooms.length) (h : nextB c f n a b = true) : (nextAB c f n a b).set b true = nextAB c f n a (b + 1) := by
  refine List.ext_getElem (by simp [nextAB]) fun i h1 h2 => ?_
  rw [List.getElem_set, nextAB_get h2]
  by_cases e : b = i
  · subst e; simp [h]
  · rw [if_neg e, nextAB_get]
    have : decide (i < b) = decide (i < b + 1) := by
      rw [decide_eq_decide]; omega
    rw [this]
theorem nextAB_no {c : Col} {f n a b : Nat} (h : nextB c f n a b = false) : nextAB c f n a b = nextAB c f n a (b + 1) := by
  unfold nextAB
  refine List.map_congr_left fun j hj => ?_
  by_cases e : j = b
  · subst e; simp [h]
  · have : decide (j < b) = decide (j < b + 1) := by
      rw [decide_eq_decide]; omega
    rw [this]
theorem comeC_len (c : Col) (f n : Nat) : (comeC c f n).length = c.rooms.length := by simp [comeC]
theorem comeC_nth {c : Col} {f n a : Nat} (h : a < c.rooms.length) : nthB (comeC c f n) a = comeB c f n a := by simp [nthB, comeC, h]
theorem comeC_zero {c : Col} {f : Nat} (h : f < c.rooms.length) : (List.replicate c.rooms.length false).set f true = comeC c f 0 := by
  refine List.ext_getElem (by simp [comeC]) fun i h1 h2 => ?_
  rw [List.getElem_set]
  unfold comeC
  by_cases e : f = i
  · subst e; simp [comeB]
  · rw [if_neg e]; simp [comeB]; exact fun h => e h.symm
theorem owns_of_bools {w : World} {b B : Nat} {xs : List Bool} (h : BoolsAt w b xs) (hB : B ≤ b) (hl : xs.length ≤ maxLen) : w.ownsRow B 4 1 (.slice (some ⟨b, 0, none⟩) xs.length xs.length) xs.length (xs.map Value.bool) :=
  ⟨by simp, .inr ⟨b, xs.length, _, rfl, hB, h, Nat.le_refl _, hl, by simp [bw], by simp [bw, List.take_of_length_le]⟩⟩

set_option maxRecDepth 100000 in
set_option maxHeartbeats 4000000 in
theorem come_any (c : Col) (r t u n : Value) (f m : Nat) (w : World) (hc : ColAt w w.heap.size r t u n c) (ok : OkCol c) (hf : f < c.rooms.length) (hm : m ≤ c.nights.length) :
    Calls Tryz.prog 107 #[.agg #[r, t, u, n], .int .i64 f, .int .i64 m] w fun e w' => ∃ b, e = .returned (.slice (some ⟨b, 0, none⟩) c.rooms.length c.rooms.length) ∧ BoolsAt w' b (comeC c f m) ∧ w.heap.size ≤ b ∧ Below w.heap.size w w' := by
  have hBW : Below w.heap.size w (w.alloc (.cells #[r, t, u, n] 32)) := (Below.refl _ w).alloc (Nat.le_refl _) _
  have HC := Lib.hid (hc.on hBW)
  obtain ⟨hr, htr, hu, hn⟩ := hc
  obtain ⟨ar, cr, rfl, _⟩ := hr.open
  obtain ⟨at_, ct, rfl, _⟩ := htr.open
  obtain ⟨au, cu, rfl, _⟩ := hu.open
  obtain ⟨an, cn, rfl, _⟩ := hn.open
  have HB := Lib.hid hBW
  have HOK := Lib.hid ok
  have o2 := ok.houses.2
  have hfi : (f : Int) < c.rooms.length := by omega
  have hmk := fun W => make_bools c.rooms.length (by omega) W
  clear hr htr hu hn hBW ok
  go_enter Tryz.func107, Tryz.ntmps107
  have e0 : ((w.alloc (.cells #[.slice ar c.rooms.length cr, .slice at_ c.traps.length ct, .slice au c.runs.length cu, .slice an c.nights.length cn] 32)).alloc (.cells (bw (List.replicate c.rooms.length false)) 4)).cell? ⟨w.heap.size + 1, f, none⟩ = some (.bool false) := by
    have h : BoolsAt ((w.alloc (.cells #[.slice ar c.rooms.length cr, .slice at_ c.traps.length ct, .slice au c.runs.length cu, .slice an c.nights.length cn] 32)).alloc (.cells (bw (List.replicate c.rooms.length false)) 4)) (w.heap.size + 1) (List.replicate c.rooms.length false) := blk _ _ _ _ (by simp)
    rw [h.cell f (by simpa using hf)]; simp [nthB, hf]
  go_wp2_with fail
  have h1 : BoolsAt ((w.alloc (.cells #[.slice ar c.rooms.length cr, .slice at_ c.traps.length ct, .slice au c.runs.length cu, .slice an c.nights.length cn] 32)).alloc (.cells ((bw (List.replicate c.rooms.length false)).setIfInBounds f (.bool true)) 4)) (w.heap.size + 1) (comeC c f 0) := by
    rw [bw_set, comeC_zero hf]; exact blk _ _ _ _ (by simp)
  have hbx : w.heap.size < (w.alloc (.cells #[.slice ar c.rooms.length cr, .slice at_ c.traps.length ct, .slice au c.runs.length cu, .slice an c.nights.length cn] 32)).heap.size := by simp
  have c0 : (w.alloc (.cells #[.slice ar c.rooms.length cr, .slice at_ c.traps.length ct, .slice au c.runs.length cu, .slice an c.nights.length cn] 32)).heap[w.heap.size]? = some (.cells #[.slice ar c.rooms.length cr, .slice at_ c.traps.length ct, .slice au c.runs.length cu, .slice an c.nights.length cn] 32 (0, 0)) := blk _ _ _ _ rfl
  have hz : (w.alloc (.cells #[.slice ar c.rooms.length cr, .slice at_ c.traps.length ct, .slice au c.runs.length cu, .slice an c.nights.length cn] 32)).heap.size = w.heap.size + 1 := by simp
  have hb1 : Below (w.alloc (.cells #[.slice ar c.rooms.length cr, .slice at_ c.traps.length ct, .slice au c.runs.length cu, .slice an c.nights.length cn] 32)).heap.size (w.alloc (.cells #[.slice ar c.rooms.length cr, .slice at_ c.traps.length ct, .slice au c.runs.length cu, .slice an c.nights.length cn] 32)) ((w.alloc (.cells #[.slice ar c.rooms.length cr, .slice at_ c.traps.length ct, .slice au c.runs.length cu, .slice an c.nights.length cn] 32)).alloc (.cells ((bw (List.replicate c.rooms.length false)).setIfInBounds f (.bool true)) 4)) := (Below.refl _ _).alloc (Nat.le_refl _) _
  obtain ⟨W1, hW1⟩ : ∃ W1, (w.alloc (.cells #[.slice ar c.rooms.length cr, .slice at_ c.traps.length ct, .slice au c.runs.length cu, .slice an c.nights.length cn] 32)) = W1 := ⟨_, rfl⟩
  rw [hW1] at HC HB h1 c0 hz hb1 hbx e0 ⊢
  have HZ := Lib.hid hz
  have HBX := Lib.hid (And.intro hbx c0)
  have H1 := Lib.hid (And.intro h1 hb1)
  clear hW1 h1 c0 hz hb1 hbx e0
  go_loopw [7, 8] (fun v i wr => ∃ k b : Nat, k ≤ m ∧ i = .int .i64 k ∧ v = .slice (some ⟨b, 0, none⟩) c.rooms.length c.rooms.length ∧ W1.heap.size ≤ b ∧ Hid (BoolsAt wr b (comeC c f k) ∧ Below W1.heap.size W1 wr)) (fun _ i _ => m - (intOf i).toNat)
  case atStart => exact ⟨0, w.heap.size + 1, Nat.zero_le _, rfl, rfl, by rw [HZ.out]; exact Nat.le_refl _, H1.out⟩
  case round =>
    obtain ⟨k, bn, hk, rfl, rfl, hbn, HR⟩ := hrel
    by_cases hlt : k < m
    · have hki : (k : Int) < m := by omega
      have hbl : bn < wr.heap.size := (Array.getElem?_eq_some_iff.1 HR.out.1).1
      have hx0 : BoolsAt (wr.alloc (.cells (bw (List.replicate c.rooms.length false)) 4)) wr.heap.size (nextAB c f k 0 0) := by rw [nextAB_zero]; exact heap_alloc_new _ _
      have hx1 : Below wr.heap.size wr (wr.alloc (.cells (bw (List.replicate c.rooms.length false)) 4)) := (Below.refl _ _).alloc (Nat.le_refl _) _
      have HX := Lib.hid (And.intro hx0 hx1)
      clear hx0 hx1
      go_wp2_with fail
      obtain ⟨wo, rfl⟩ : ∃ wo : World, wo = wr := ⟨_, rfl⟩
      go_loopw [10] (fun i wq => ∃ a : Nat, a ≤ c.rooms.length ∧ i = .int .i64 a ∧ Hid (BoolsAt wq wo.heap.size (nextAB c f k a 0) ∧ Below wo.heap.size wo wq)) (fun i _ => c.rooms.length - (intOf i).toNat)
      case atStart => exact ⟨0, Nat.zero_le _, rfl, HX.out⟩
      case round =>
        obtain ⟨a, ha, rfl, HQ⟩ := hrel
        by_cases halt : a < c.rooms.length
        · have hai : (a : Int) < c.rooms.length := by omega
          go_wp2_with fail
          obtain ⟨wp, rfl⟩ : ∃ wp : World, wp = wr := ⟨_, rfl⟩
          go_loopw [11] (fun i wq => ∃ b : Nat, b ≤ c.rooms.length ∧ i = .int .i64 b ∧ Hid (BoolsAt wq wo.heap.size (nextAB c f k a b) ∧ Below wo.heap.size wo wq)) (fun i _ => c.rooms.length - (intOf i).toNat)
          case atStart => exact ⟨0, Nat.zero_le _, rfl, HQ⟩
          case round =>
            obtain ⟨b, hb, rfl, HS⟩ := hrel
            by_cases hblt : b < c.rooms.length
            · have hbi : (b : Int) < c.rooms.length := by omega
              have hW1 : Below W1.heap.size W1 wr := HR.out.2.trans (HS.out.2.mono HR.out.2.size)
              have n1 : BoolsAt wr bn (comeC c f k) := (HS.out.2.block bn hbl).trans HR.out.1
              have d1 := n1.cell a (by rw [comeC_len]; exact halt)
              rw [comeC_nth halt] at d1
              have p0 := blk_on HBX.out.2 hW1
              have p0' := (cell_of_row _ _ 0 _ _ _ p0).trans rfl
              have p1' := (cell_of_row _ _ 1 _ _ _ p0).trans rfl
              have p2' := (cell_of_row _ _ 2 _ _ _ p0).trans rfl
              have p3' := (cell_of_row _ _ 3 _ _ _ p0).trans rfl
              have hcol := HC.out.on hW1
              have hlen := HOK.out.row k (by omega)
              have htl := HOK.out.traps
              have HF := Lib.hid (rfull_any c _ _ _ _ a k wr hcol (by omega) (by rw [hlen]; exact halt) (by omega))
              have HG := Lib.hid (fun W (h : Below wr.heap.size wr W) => goes_any c _ _ _ _ (a : Int) (b : Int) W (hcol.on h))
              have hsb : wo.heap.size < wr.heap.size := (Array.getElem?_eq_some_iff.1 HS.out.1).1
              have hnx : nextB c f k a b = (comeB c f k a && fullB c a k && goesI c a b) := rfl
              have HP := Lib.hid (And.intro p0 hnx)
              have HSB := Lib.hid hsb
              clear hW1 n1 p0 hcol hlen htl hnx hsb
              cases hq1 : comeB c f k a
              · rw [hq1] at d1
                have HNO : Hid (nextB c f k a b = false) := by rw [HP.out.2, hq1]; rfl
                clear hq1 HF HG
                go_wp2_with fail
                go_roundw
                case rel => exact ⟨b + 1, by omega, by go_num, by rw [← nextAB_no HNO.out]; exact HS.out⟩
                case measure => simp [intOf]; omega
              · rw [hq1] at d1
                have HQ1 := Lib.hid hq1
                clear hq1
                cases hq2 : fullB c a k
                · rw [hq2] at HF
                  have HNO : Hid (nextB c f k a b = false) := by rw [HP.out.2, HQ1.out, hq2]; rfl
                  clear hq2 HG
                  go_wp2_with (go_at_call 106; refine HF.out.mono ?_; rintro e w5 ⟨rfl, hb5⟩; have H5 := Lib.hid hb5; clear hb5)
                  go_roundw
                  case rel =>
                    refine ⟨b + 1, by omega, by go_num, ?_⟩
                    rw [← nextAB_no HNO.out]
                    exact ⟨(H5.out.block _ HSB.out).trans HS.out.1, HS.out.2.trans (H5.out.mono (Nat.le_of_lt HSB.out))⟩
                  case measure => simp [intOf]; omega
                · rw [hq2] at HF
                  have HQ2 := Lib.hid hq2
                  clear hq2
                  go_wp2_with (go_at_call 106; refine HF.out.mono ?_; rintro e w5 ⟨rfl, hb5⟩; have p5 := blk_on HP.out.1 hb5; have q0 := (cell_of_row _ _ 0 _ _ _ p5).trans rfl; have q1 := (cell_of_row _ _ 1 _ _ _ p5).trans rfl; have q2 := (cell_of_row _ _ 2 _ _ _ p5).trans rfl; have q3 := (cell_of_row _ _ 3 _ _ _ p5).trans rfl; have HG5 := Lib.hid (HG.out _ hb5); have H5 := Lib.hid hb5; clear hb5 p5)
                  have H5b : Hid (BoolsAt w5 wo.heap.size (nextAB c f k a b)) := (H5.out.block _ HSB.out).trans HS.out.1
                  cases hq3 : goesI c a b
                  · have HG6 := HG5.out
                    rw [hq3] at HG6
                    have HG7 := Lib.hid HG6
                    have HNO : Hid (nextB c f k a b = false) := by rw [HP.out.2, HQ1.out, HQ2.out, hq3]; rfl
                    clear hq3 HG HG5 HG6 q0 q1 q2 q3
                    refine HG7.out.mono ?_
                    rintro e w6 ⟨rfl, hb6⟩
                    have H6 := Lib.hid hb6
                    clear hb6
                    go_wp2_with fail
                    go_roundw
                    case rel =>
                      refine ⟨b + 1, by omega, by go_num, ?_⟩
                      rw [← nextAB_no HNO.out]
                      exact ⟨(H6.out.block _ (Nat.lt_of_lt_of_le HSB.out H5.out.size)).trans H5b.out, HS.out.2.trans ((H5.out.trans (H6.out.mono H5.out.size)).mono (Nat.le_of_lt HSB.out))⟩
                    case measure => simp [intOf]; omega
                  · have HG6 := HG5.out
                    rw [hq3] at HG6
                    have HG7 := Lib.hid HG6
                    have HYES : Hid (nextB c f k a b = true) := by rw [HP.out.2, HQ1.out, HQ2.out, hq3]; rfl
                    clear hq3 HG HG5 HG6 q0 q1 q2 q3
                    refine HG7.out.mono ?_
                    rintro e w6 ⟨rfl, hb6⟩
                    have n6 : BoolsAt w6 wo.heap.size (nextAB c f k a b) := (hb6.block _ (Nat.lt_of_lt_of_le HSB.out H5.out.size)).trans H5b.out
                    have x6 := n6.cell b (by rw [nextAB_len]; exact hblt)
                    have f6 := n6.free b
                    have H6 := Lib.hid (And.intro n6 hb6)
                    clear hb6 n6
                    go_wp2_with fail
                    go_roundw
                    case rel =>
                      refine ⟨b + 1, by omega, by go_num, ?_⟩
                      rw [← nextAB_yes hblt HYES.out]
                      exact ⟨H6.out.1.set b true, (HS.out.2.trans ((H5.out.trans (H6.out.2.mono H5.out.size)).mono (Nat.le_of_lt HSB.out))).setCell (p := ⟨wo.heap.size, b, none⟩) (Nat.le_refl _) _⟩
                    case measure => simp [intOf]; omega
            · obtain rfl : b = c.rooms.length := by omega
              go_wp2_with fail
              go_roundw
              case rel => exact ⟨a + 1, by omega, by go_num, by rw [← nextAB_row]; exact HS.out⟩
              case measure => simp [intOf]; omega
        · obtain rfl : a = c.rooms.length := by omega
          go_wp2_with fail
          go_roundw
          case rel =>
            refine ⟨k + 1, wo.heap.size, by omega, by go_num, rfl, by have := HR.out.2.size; omega, ?_⟩
            have h := HQ.out.1
            rw [nextAB_all] at h
            exact ⟨h, HR.out.2.trans (HQ.out.2.mono HR.out.2.size)⟩
          case measure => simp [intOf]; omega
    · obtain rfl : k = m := by omega
      go_wp2_with fail
      go_ret
      exact ⟨bn, rfl, HR.out.1, by have := HZ.out; omega, HB.out.trans (HR.out.2.mono (by have := HZ.out; omega))⟩
end Go.Proofs.YtnhifinfjfpoiaaGreat

namespace Go.Proofs.YtnhifinfjfpoiaaGreat
open Go.RowKit
set_option linter.unusedVariables false
set_option linter.unusedSimpArgs false

theorem upto_all {m k : Nat} (h : ∀ o, k ≤ o → m.testBit o = false) (hk : k ≤ 6) : upto m k = members m := by
  have key : ∀ d, k + d ≤ 6 → upto m (k + d) = upto m k := by
    intro d
    induction d with
    | zero => intro _; rfl
    | succ d ih =>
      intro hd
      rw [← Nat.add_assoc, upto_no (h (k + d) (by omega)), ih (by omega)]
  have := key (6 - k) (by omega)
  rw [show k + (6 - k) = 6 from by omega] at this
  exact this.symm
theorem upto_org {c : Col} (ok : OkCol c) (k h : Nat) : upto (org c k h) c.rooms.length = members (org c k h) :=
  upto_all (fun o ho => by
    cases e : (org c k h).testBit o
    · rfl
    · have := org_only ok k h o e; omega) ok.houses.2

set_option maxRecDepth 100000 in
set_option maxHeartbeats 2000000 in
theorem rOrigins_good (c : Col) (r t u n : Value) (h m : Int) (w : World) (hc : ColAt w w.heap.size r t u n c) (hk : askedErr c h m = 0) :
    Calls Tryz.prog 63 #[.agg #[r, t, u, n], .int .i64 h, .int .i64 m] w fun e w' => ∃ v, e = .returned (.tuple #[v, .int .i64 0]) ∧ IsInts w' w'.heap.size v (natsI (members (org c m.toNat h.toNat))) ∧ Below w.heap.size w w' := by
  obtain ⟨ok, H, M, rfl, rfl, hH, hM⟩ := asked_in hk
  have hBW : Below w.heap.size w (w.alloc (.cells #[r, t, u, n] 32)) := (Below.refl _ w).alloc (Nat.le_refl _) _
  have hcA := hc.on hBW
  have hask := rasked_any c r t u n H M _ hcA
  rw [hk] at hask
  have HASK := Lib.hid hask
  obtain ⟨i0, hi, hz0, hz1, hz2⟩ := info_parts infoInt
  have c0 : (w.alloc (.cells #[r, t, u, n] 32)).heap[w.heap.size]? = some (.cells #[r, t, u, n] 32 (0, 0)) := blk _ _ _ _ rfl
  have HC := Lib.hid hcA
  obtain ⟨hr, htr, hu, hn⟩ := hc
  obtain ⟨ar, cr, rfl, _⟩ := hr.open
  obtain ⟨at_, ct, rfl, _⟩ := htr.open
  obtain ⟨au, cu, rfl, _⟩ := hu.open
  obtain ⟨an, cn, rfl, _⟩ := hn.open
  have o2 := ok.houses.2
  have HB := Lib.hid hBW; have HOK := Lib.hid ok; have HX := Lib.hid c0
  have hHi : (H : Int) < c.rooms.length := by omega
  clear hr htr hu hn hBW hcA hask hk ok c0
  go_enter Tryz.func63, Tryz.ntmps63
  go_wp2_with fail
  refine HASK.out.mono ?_
  rintro e w1 ⟨rfl, hb1⟩
  have HB1 := Lib.hid hb1
  clear hb1 HASK
  go_wp2_with fail
  go_loopw [9, 10] (fun v i wr => ∃ k : Nat, k ≤ c.rooms.length ∧ i = .int .i64 k ∧ Hid (wr.ownsRow w1.heap.size 3 1 v (upto (org c M H) k).length (intsV (natsI (upto (org c M H) k))) ∧ Below w1.heap.size w1 wr)) (fun _ i _ => c.rooms.length - (intOf i).toNat)
  case atStart => exact ⟨0, Nat.zero_le _, rfl, World.ownsRow_nil _ _ _ _, Below.refl _ _⟩
  case round =>
    obtain ⟨k, hk, rfl, HR⟩ := hrel
    have hBr := HB1.out.trans (HR.out.2.mono HB1.out.size)
    have p0 := blk_on HX.out hBr
    have q0 := (cell_of_row _ _ 0 _ _ _ p0).trans rfl
    have q1 := (cell_of_row _ _ 1 _ _ _ p0).trans rfl
    have q2 := (cell_of_row _ _ 2 _ _ _ p0).trans rfl
    have q3 := (cell_of_row _ _ 3 _ _ _ p0).trans rfl
    by_cases hlt : k < c.rooms.length
    · have hki : (k : Int) < c.rooms.length := by omega
      have HCM := Lib.hid (come_any c _ _ _ _ k M wr (HC.out.on hBr) HOK.out hlt (by omega))
      have hbit : (org c M H).testBit k = comeB c k M H := org_come HOK.out M H k hH hlt (by omega)
      have HBIT := Lib.hid hbit
      have hszr := HR.out.2.size
      have hcl : (comeC c k M).length = c.rooms.length := comeC_len c k M
      have HCL := Lib.hid hcl
      clear hbit hBr p0 hcl
      have hul := upto_len (org c M H) k
      cases hq : comeB c k M H
      · have HNO : Hid ((org c M H).testBit k = false) := by rw [HBIT.out, hq]; rfl
        have HQ := Lib.hid hq
        clear hq
        go_wp2_with (go_at_call 107; refine HCM.out.mono ?_; rintro e w5 ⟨b5, rfl, hbs, hb5, hbw⟩; have d5 := hbs.cell H (by rw [HCL.out]; exact hH); rw [comeC_nth hH, HQ.out] at d5; have H5 := Lib.hid hbw; clear hbs hb5 hbw)
        go_roundw
        case rel =>
          refine ⟨k + 1, by omega, by go_num, ?_⟩
          rw [upto_no HNO.out]
          exact ⟨owns_below HR.out.1 H5.out, HR.out.2.trans (H5.out.mono hszr)⟩
        case measure => simp [intOf]; omega
      · have HYES : Hid ((org c M H).testBit k = true) := by rw [HBIT.out, hq]; rfl
        have HQ := Lib.hid hq
        clear hq
        go_wp2_with (first | (at_builtin; refine wpList_append_own _ rfl _ _ 22 rfl w1.heap.size 3 i0 (.int .i64 0) 1 8 Tryz.underlying22 hi hz0 hz1 hz2 rfl (by decide) _ _ _ rfl HO.out ⟨w5.heap.size, 0, none⟩ 1 1 [.int .i64 (k : Nat)] rfl rfl (cell_one_new _ _ _) (fun x hx => by simp at hx; subst hx; rfl) (by unfold maxLen; omega) (by omega) (by simp; omega) ?_; intro v' w6 hown' hgrow _; have HG := Lib.hid (And.intro hown' hgrow); clear hown' hgrow) | (go_at_call 107; refine HCM.out.mono ?_; rintro e w5 ⟨b5, rfl, hbs, hb5, hbw⟩; have d5 := hbs.cell H (by rw [HCL.out]; exact hH); rw [comeC_nth hH, HQ.out] at d5; have H5 := Lib.hid hbw; have hsz5 := hbw.size; have HO := Lib.hid ((owns_below HR.out.1 hbw).alloc (.cells #[.int .i64 (k : Nat)] 3)); clear hbs hb5 hbw))
        go_roundw
        case rel =>
          refine ⟨k + 1, by omega, by go_num, ?_⟩
          rw [upto_yes HYES.out]
          have hbA : Below w1.heap.size w1 (w5.alloc (.cells #[.int .i64 (k : Nat)] 3)) := (HR.out.2.trans (H5.out.mono hszr)).alloc (by omega) _
          refine ⟨?_, below_grown hbA HG.out.2 (fun r hr => (HO.out.lt r hr).1) (by simp; omega)⟩
          have e : intsV (natsI (upto (org c M H) k ++ [k])) = intsV (natsI (upto (org c M H) k)) ++ [.int .i64 (k : Nat)] := by simp [intsV, natsI]
          rw [e, List.length_append]
          exact HG.out.1
        case measure => simp [intOf]; omega
    · obtain rfl : k = c.rooms.length := by omega
      have hu := upto_org HOK.out M H
      have HU := Lib.hid hu
      have hul := upto_len (org c M H) c.rooms.length
      clear hu p0
      go_wp2_with fail
      go_ret2
      refine ⟨_, rfl, ?_, HB.out.trans (hBr.mono (by simp))⟩
      rw [Int.toNat_natCast, Int.toNat_natCast, ← HU.out]
      have e : (natsI (upto (org c M H) c.rooms.length)).length = (upto (org c M H) c.rooms.length).length := by simp [natsI]
      refine nums_of_owns (b := w1.heap.size) (e := 3) (by rw [e]; exact HR.out.1) (natsI_i64 (fun o ho => ?_)) (by omega)
      have := (upto_prefix (org c M H) c.rooms.length (by omega)).subset ho
      have := (mem_members.1 this).1
      omega
set_option maxRecDepth 100000 in
theorem rOrigins_bad (c : Col) (r t u n : Value) (h m : Int) (w : World) (hc : ColAt w w.heap.size r t u n c) (hk : ¬ askedErr c h m = 0) :
    Calls Tryz.prog 63 #[.agg #[r, t, u, n], .int .i64 h, .int .i64 m] w fun e w' => e = .returned (.tuple #[.slice none 0 0, .int .i64 (askedErr c h m)]) ∧ Below w.heap.size w w' := by
  have hBW : Below w.heap.size w (w.alloc (.cells #[r, t, u, n] 32)) := (Below.refl _ w).alloc (Nat.le_refl _) _
  have HASK := Lib.hid (rasked_any c r t u n h m _ (hc.on hBW))
  obtain ⟨hr, htr, hu, hn⟩ := hc
  obtain ⟨ar, cr, rfl, _⟩ := hr.open
  obtain ⟨at_, ct, rfl, _⟩ := htr.open
  obtain ⟨au, cu, rfl, _⟩ := hu.open
  obtain ⟨an, cn, rfl, _⟩ := hn.open
  have HB := Lib.hid hBW
  have hk1 : (askedErr c h m == 0) = false := by simpa using hk
  have hk2 : (askedErr c h m != 0) = true := by simp [bne, hk1]
  clear hr htr hu hn hBW hk
  go_enter Tryz.func63, Tryz.ntmps63
  go_wp2_with fail
  refine HASK.out.mono ?_
  rintro e w1 ⟨rfl, hb1⟩
  go_wp2_with fail
  go_ret2
  exact ⟨rfl, HB.out.trans (hb1.mono (by simp))⟩
end Go.Proofs.YtnhifinfjfpoiaaGreat
