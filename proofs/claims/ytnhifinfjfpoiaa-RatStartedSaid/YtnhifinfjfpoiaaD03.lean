/- RatStarted holds: for whatever bytes and number the law answers true, and what came in reads as it read before. No condition is laid on the arguments beyond the form's own reach. -/
import Derived.Test.YtnhifinfjfpoiaaK11
import Derived.Test.YtnhifinfjfpoiaaK13
import Derived.Test.YtnhifinfjfpoiaaK15
import Derived.Test.YtnhifinfjfpoiaaK16
import Derived.Test.YtnhifinfjfpoiaaK14
import Derived.Test.YtnhifinfjfpoiaaK08
import Derived.Test.YtnhifinfjfpoiaaRows
import Derived.Test.YtnhifinfjfpoiaaK12
namespace Go.Proofs.Ytnhifinfjfpoiaa
open Go.RowKit
set_option linter.unusedVariables false
set_option linter.unusedSimpArgs false

def BoxS5 (b5 bn on b11 : Nat) (rv : Value) (x y lo hi : Int) (W : World) : Prop := W.cell? ⟨b5, 0, none⟩ = some rv ∧ W.cell? ⟨bn, on, none⟩ = some (.int .i64 x) ∧ W.cell? ⟨bn, on + 1, none⟩ = some (.int .i64 y) ∧ W.cell? ⟨b11, 0, none⟩ = some (.int .i64 lo) ∧ W.cell? ⟨b11, 1, none⟩ = some (.int .i64 hi)

theorem BoxS5.below {b5 bn on b11 : Nat} {rv : Value} {x y lo hi : Int} {W W' : World} (h : BoxS5 b5 bn on b11 rv x y lo hi W) (hb : Below W.heap.size W W') : BoxS5 b5 bn on b11 rv x y lo hi W' := by
  obtain ⟨h1, h2, h3, h4, h5⟩ := h
  exact ⟨(hb.cell (p := ⟨b5, 0, none⟩) (block_lt_of_cell h1)).trans h1, (hb.cell (p := ⟨bn, on, none⟩) (block_lt_of_cell h2)).trans h2, (hb.cell (p := ⟨bn, on + 1, none⟩) (block_lt_of_cell h3)).trans h3, (hb.cell (p := ⟨b11, 0, none⟩) (block_lt_of_cell h4)).trans h4, (hb.cell (p := ⟨b11, 1, none⟩) (block_lt_of_cell h5)).trans h5⟩

set_option maxRecDepth 100000 in
set_option maxHeartbeats 4000000 in
theorem ratStarted_any (v1 : Value) (xs1 : List Int) (which : Int) (w : World) (h1 : IsBytes w w.heap.size v1 xs1) :
    Calls Try.prog 10 #[v1, .int .i64 which] w fun e w' => e = .returned (.bool true) ∧ Below w.heap.size w w' := by
  have HB := Lib.hid h1
  clear h1
  go_enter Try.func10, Try.ntmps10
  go_wp2_with fail
  refine (fill_any v1 xs1 w HB.out).mono ?_
  rintro e w1 ⟨rfl, hc1, hb1, hz1⟩
  have HP1 := Lib.hid ((PW.start w).fill hc1 hb1)
  obtain ⟨p1, hp1⟩ : ∃ p1, w.heap.size = p1 := ⟨_, rfl⟩
  have hP1 := HP1.out
  rw [hp1] at hP1
  have HP1 := Lib.hid hP1
  rw [hp1]
  clear hc1 hb1 hz1 hP1 hp1
  go_wp2_with fail
  refine (made_any p1 v1 xs1 5 4 w1 (HP1.out.chute 0 rfl HB.out) (by omega) (by omega)).mono ?_
  rintro e w2 ⟨r, t, u, nv, cv, lv, fv, rooms, traps, rs, k, N, T, M, L, left, rfl, hI, hcol, hT, hL, hF, hc2, ht2, nbN, nbT, bL, Lf, rfl, hLf, hsep⟩
  have HI := Lib.hid hI
  have HP2 := Lib.hid (((HP1.out.made 0 rfl hc2 ht2 hsep).newBlk 26 #[r, t, u, nv]).newBlk 55 #[cv, .slice (some ⟨bL, 0, none⟩) rooms.length rooms.length])
  have hn0 : 0 < rooms.length := hI.made.many.1
  have hn5 : (rooms.length : Int) ≤ 5 := hI.few
  obtain ⟨ar, qr, rfl⟩ := owns_slice (hsep.at 0 rfl)
  obtain ⟨at_, qt, rfl⟩ := owns_slice (hsep.at 1 rfl)
  obtain ⟨au, qu, rfl⟩ := owns_slice (hsep.at 2 rfl)
  obtain ⟨⟨fsN, hoN, _⟩, _⟩ : (pRows w1.heap.size rooms.length nv nbN N).told w2 := hsep.at 3 rfl
  obtain ⟨⟨fsT, hoT, _⟩, _⟩ : (pRows w1.heap.size rooms.length cv nbT T).told w2 := hsep.at 4 rfl
  obtain ⟨an, qn, rfl⟩ := owns_slice hoN
  obtain ⟨ac, qc, rfl⟩ := owns_slice hoT
  obtain ⟨al, ql, rfl⟩ := owns_slice (hsep.at 6 rfl)
  have HC2 := Lib.hid hcol
  clear hI hcol hT hL hF hc2 ht2 hLf hsep hoN hoT
  go_wp2_with fail
  obtain ⟨W3, hW3⟩ : ∃ W3, (w2.alloc (.cells #[.slice ar rooms.length qr, .slice at_ rooms.length qt, .slice au rs.length qu, .slice an N.length qn] 26)).alloc (.cells #[.slice ac T.length qc, .slice (some ⟨bL, 0, none⟩) rooms.length rooms.length] 55) = W3 := ⟨_, rfl⟩
  obtain ⟨b5, hb5⟩ : ∃ b5, w2.heap.size = b5 := ⟨_, rfl⟩
  have hP2 := HP2.out
  have hcol3 : ColAt W3 W3.heap.size (.slice ar rooms.length qr) (.slice at_ rooms.length qt) (.slice au rs.length qu) (.slice an N.length qn) ⟨rooms, traps, rs, N⟩ := by
    rw [← hW3]
    exact (HC2.out.below (((Below.refl _ _).alloc (Nat.le_refl _) _).alloc (by simp) _) (Nat.le_refl _)).mono (by simp; omega)
  rw [hW3, hb5] at hP2
  rw [hW3]
  have HP3 := Lib.hid hP2
  have HC3 := Lib.hid hcol3
  have hb6 : ∃ b6, w2.heap.size + 1 = b6 := ⟨_, rfl⟩
  obtain ⟨b6, hb6⟩ := hb6
  rw [hb5] at hb6
  rw [hb5]
  (try rw [hb6])
  clear hW3 hP2 hcol3 HC2 HP2 hb5
  obtain ⟨C, hCe⟩ : ∃ C : Col, (⟨rooms, traps, rs, N⟩ : Col) = C := ⟨_, rfl⟩
  have hfe := HI.out.fitErr (by omega)
  have hck := HI.out.check (by omega)
  rw [hCe] at hfe hck HC3
  have HFE := Lib.hid hfe
  have HCK := Lib.hid hck
  have HCE := Lib.hid hCe
  have HOK := Lib.hid (show OwnOk rooms.length ⟨rooms, traps, rs, N⟩ from ⟨hn0, rfl, HI.out.made.trapN, by have := HI.out.made.few; show rs.length ≤ 100; omega, by have := HI.out.caught.lenN; have := HI.out.nights; show N.length ≤ 100; omega, by have := HI.out.made.many.2; omega, fun j hj => HI.out.caught.rowN j (by rw [← HI.out.caught.lenN]; exact hj)⟩)
  have HRM := Lib.hid HI.out.made.roomB
  obtain ⟨gr, cr, er, hcr, _⟩ := int_row_cells (HP3.out.at 1 rfl) rfl hn0
  cases er
  have HP := Lib.hid (HP3.out.pick (ps' := madeBox b5 w1.heap.size (.slice (some ⟨gr, 0, none⟩) rooms.length qr) (.slice at_ rooms.length qt) (.slice au rs.length qu) (.slice an N.length qn) rooms.length rooms traps rs nbN N) [8, 1, 2, 3, 4] (by decide) rfl)
  have HCOL : Hid (∀ W ps, PW w W ps → ps[1]? = some (pRow w1.heap.size 3 1 rooms.length (.slice (some ⟨gr, 0, none⟩) rooms.length qr) (intsV rooms)) → ps[2]? = some (pRow w1.heap.size 3 1 rooms.length (.slice at_ rooms.length qt) (intsV traps)) → ps[3]? = some (pRow w1.heap.size 63 2 rs.length (.slice au rs.length qu) (pairsV rs)) → ps[4]? = some (pRows w1.heap.size rooms.length (.slice an N.length qn) nbN N) → ColAt W W.heap.size (.slice (some ⟨gr, 0, none⟩) rooms.length qr) (.slice at_ rooms.length qt) (.slice au rs.length qu) (.slice an N.length qn) ⟨rooms, traps, rs, N⟩) := fun W ps H e2 e3 e4 e5 =>
    made_read (by rw [HCE.out]; exact HCK.out) rfl (H.at 1 e2) (H.at 2 e3) (H.at 3 e4) (H.at 4 e5)
  have hSL : (startsC C).length = rooms.length := by rw [← hCe]; exact startsTo_len _ _
  clear hCe hfe hck HP3 HP1 HI hb6
  refine (wrap_any which rooms.length W3 (by omega) (by omega)).mono ?_
  rintro e w4 ⟨x, rfl, x0, x1, rfl⟩
  obtain ⟨h, rfl⟩ : ∃ h : Nat, x = h := ⟨x.toNat, by omega⟩
  have hh : h < rooms.length := by omega
  have hr8 := HRM.out h hh
  obtain ⟨k0, k1, k2, k3⟩ := four_at (HP.out.at 0 rfl)
  clear x0 x1
  go_wp2_with fail
  generalize Value.tuple _ = q18
  generalize Value.agg #[Value.slice ac _ _, _] = q23
  refine (Starts_ok C _ _ _ _ W3 HC3.out HFE.out).mono ?_
  rintro e w5 ⟨sv, rfl, hs5, hb5'⟩
  have HP5 := Lib.hid (HP.out.below hb5')
  clear k0 k1 k2 k3 HP HC3 hb5'
  obtain ⟨as_, qs, rfl, hqs1, hqs2, hsc⟩ := hs5.open
  rw [hSL] at hqs1 hsc ⊢
  obtain ⟨bs, os, rfl, hbs, m1, m2⟩ := hsc h hh
  have hst : nthP (startsC C) h = startOf C h := starts_nth C (by rw [← HCE.out]; exact hh)
  rw [hst] at m1 m2
  have hlaw : ∀ r : Int, 0 ≤ r → r ≤ nth rooms h → _ := fun r a b => start_room (R := rooms) (traps := traps) (rs := rs) (N := N) (by rw [HCE.out]; exact HFE.out) hh a b
  rw [HCE.out] at hlaw
  obtain ⟨lo, hlo⟩ : ∃ lo, (startOf C h).1 = lo := ⟨_, rfl⟩
  obtain ⟨hi, hhi⟩ : ∃ hi, (startOf C h).2 = hi := ⟨_, rfl⟩
  rw [hlo] at m1 hlaw
  rw [hhi] at m2 hlaw
  have HLAW := Lib.hid hlaw
  have HPS := Lib.hid (HP5.out.newBlk 49 #[.int .i64 lo, .int .i64 hi])
  clear hs5 hsc hst hlaw hlo hhi hqs1 hqs2 hSL
  have k0 := (four_at (HP5.out.at 0 rfl)).1
  go_upto_region 7 with (fail)
  obtain ⟨W6, hW6⟩ : ∃ W6, w5.alloc (.cells #[.int .i64 lo, .int .i64 hi] 49) = W6 := ⟨_, rfl⟩
  obtain ⟨b11, hb11⟩ : ∃ b11, w5.heap.size = b11 := ⟨_, rfl⟩
  have hPS := HPS.out
  rw [hW6, hb11] at hPS
  rw [hW6, hb11]
  have HP6 := Lib.hid hPS
  clear hW6 hb11 hPS HPS HP5 m1 m2 k0
  obtain ⟨ρ, hρ⟩ : ∃ ρ : Nat, nth rooms h = ρ := ⟨(nth rooms h).toNat, by omega⟩
  have HRO := Lib.hid hρ
  have k0 := (four_at (HP6.out.at 0 rfl)).1
  have kr := (IntBlk.of_owns (HP6.out.at 1 rfl) rfl (fun _ _ => rfl)).cell hh
  rw [hρ] at kr hr8
  have hr9 : (ρ : Int) ≤ 8 := by omega
  clear hρ hr8
  go_wp2_with fail
  clear k0 kr
  go_loopw [55] (fun i wr => ∃ c : Nat, c ≤ ρ + 1 ∧ i = .int .i64 c ∧ Hid (PW w wr (madeBox b5 w1.heap.size (.slice (some ⟨gr, 0, none⟩) rooms.length qr) (.slice at_ rooms.length qt) (.slice au rs.length qu) (.slice an N.length qn) rooms.length rooms traps rs nbN N ++ [pBlk b11 49 #[.int .i64 lo, .int .i64 hi]]))) (fun i _ => ρ + 1 - (intOf i).toNat)
  case atStart => exact ⟨0, Nat.zero_le _, rfl, HP6⟩
  case round =>
    obtain ⟨c, hc, rfl, HR⟩ := hrel
    by_cases hlt : c < ρ + 1
    · have hci : (c : Int) < (ρ : Int) + 1 := by omega
      obtain ⟨k0, k1, k2, k3⟩ := four_at (HR.out.at 0 rfl)
      clear HP6
      go_wp2_with fail
      refine (ownSep_any rooms.length ⟨rooms, traps, rs, N⟩ _ _ _ _ wr (HCOL.out _ _ HR.out rfl rfl rfl rfl) HOK.out).mono ?_
      rintro e wA ⟨ra, ta, ua, na, A1, A2, A3, A4, nba, rfl, hA1, hA2, hA3, hA4, hsA, hbA⟩
      obtain ⟨ga, ca, rfl, hca, _⟩ := int_row_cells (hsA.at 0 rfl) rfl hn0
      obtain ⟨ta1, ta2, rfl⟩ := owns_slice (hsA.at 1 rfl)
      obtain ⟨ua1, ua2, rfl⟩ := owns_slice (hsA.at 2 rfl)
      obtain ⟨⟨⟨fsa, hoa, _⟩, _⟩, _⟩ : (pRowsI A4 rooms.length na nba N).told wA := hsA.at 3 rfl
      obtain ⟨na1, na2, rfl⟩ := owns_slice hoa
      have HA0 := Lib.hid ((HR.out.both hbA hsA).newBlk 26 #[.slice (some ⟨ga, 0, none⟩) rooms.length ca, .slice ta1 rooms.length ta2, .slice ua1 rs.length ua2, .slice na1 N.length na2])
      clear hsA hbA hoa k0 k1 k2 k3 hA1 hA2 hA3 hA4
      go_upto_region 11 with (fail)
      obtain ⟨WA, hWA⟩ : ∃ WA, wA.alloc (.cells #[.slice (some ⟨ga, 0, none⟩) rooms.length ca, .slice ta1 rooms.length ta2, .slice ua1 rs.length ua2, .slice na1 N.length na2] 26) = WA := ⟨_, rfl⟩
      obtain ⟨b13, hb13⟩ : ∃ b13, wA.heap.size = b13 := ⟨_, rfl⟩
      have hA := HA0.out
      rw [hWA, hb13] at hA
      rw [hWA, hb13]
      have HA := Lib.hid (hA.rowInt 6 rfl rfl)
      clear hA HA0 hWA hb13
      have k0 := (four_at (HA.out.at 10 rfl)).1
      have kc := IntBlk.cell (HA.out.at 6 rfl) hh
      have kf := IntBlk.free (HA.out.at 6 rfl) h
      have HB1 := Lib.hid (HA.out.setInt 6 rfl hh c)
      clear HA
      go_upto_region 12 with (fail)
      obtain ⟨WB, hWB⟩ : ∃ WB, WA.setCell ⟨ga, h, none⟩ (.int .i64 c) = WB := ⟨_, rfl⟩
      rw [hWB] at HB1 ⊢
      clear hWB k0 kc kf
      obtain ⟨O, hO⟩ : ∃ O : Col, (⟨rooms.set h (c : Int), traps, rs, N⟩ : Col) = O := ⟨_, rfl⟩
      have hcb : 0 ≤ (c : Int) ∧ (c : Int) ≤ nth rooms h := by rw [HRO.out]; omega
      have hcol : ColAt WB WB.heap.size (.slice (some ⟨ga, 0, none⟩) rooms.length ca) (.slice ta1 rooms.length ta2) (.slice ua1 rs.length ua2) (.slice na1 N.length na2) O := by
        have hck := rooms_check (rooms' := rooms.set h (c : Int)) (by rw [HCE.out]; exact HCK.out) (by simp) (fun i hi => by
          rw [set_any rooms i c hh]
          have := HRM.out i hi
          split <;> omega)
        have := own_read (f := fun j => if j = h then (c : Int) else nth rooms j) (by rw [range_set _ hh]; exact hck) hca (HB1.out.at 6 rfl) (HB1.out.at 7 rfl) (HB1.out.at 8 rfl) (HB1.out.at 9 rfl)
        rw [range_set _ hh, hO] at this
        exact this
      have HCO := Lib.hid hcol
      obtain ⟨law1, law2⟩ := HLAW.out c hcb.1 hcb.2
      rw [hO] at law1 law2
      have HOL : Hid ((startsC O).length = rooms.length) := by rw [← hO]; exact (startsTo_len _ _).trans (by simp)
      obtain ⟨k0, k1, k2, k3⟩ := four_at (HB1.out.at 10 rfl)
      clear hO hcb hcol
      by_cases hcl : (c : Int) < lo
      · obtain ⟨f1, f2, m, f3, f4, f5⟩ := law1 hcl
        have HF := Lib.hid (And.intro f1 (And.intro f2 (And.intro f3 (And.intro f4 f5))))
        clear law1 law2 f1 f2 f3 f4 f5
        go_wp2_with fail
        refine (Starts_bad O _ _ _ _ WB HCO.out (by rw [HF.out.1]; decide)).mono ?_
        rintro e wC ⟨rfl, hbC⟩
        rw [HF.out.1]
        have HCO2 := Lib.hid ((HCO.out.below hbC (Nat.le_refl _)).mono hbC.size)
        have HC1 := Lib.hid (HB1.out.below hbC)
        clear hbC k0 k1 k2 k3
        obtain ⟨k0, k1, k2, k3⟩ := four_at (HC1.out.at 10 rfl)
        have ks := (two_at (HC1.out.at 5 rfl)).1
        go_wp2_with fail
        refine (clash_ask O _ _ _ _ wC HCO2.out).mono ?_
        rintro e wD ⟨cv, rfl, hcv, hbD⟩
        rw [HF.out.2.1]
        have HD1 := Lib.hid (HC1.out.below hbD)
        have HCV := Lib.hid hcv
        clear hbD hcv k0 k1 k2 k3 ks
        go_wp2_with fail
        refine (contains_any cv _ h wD HCV.out).mono ?_
        rintro e wE ⟨rfl, rfl⟩
        rw [HF.out.2.2.2.2, contains_bit (by omega), HF.out.2.2.2.1]
        go_wp2_with fail
        go_roundw
        case rel => exact ⟨c + 1, by omega, by go_num, (HD1.out.left (qs := [_, _, _, _, _]))⟩
        case measure => simp [intOf]; omega
      · obtain ⟨f1, f2⟩ := law2 (by omega)
        have HF := Lib.hid (And.intro f1 f2)
        clear law1 law2 f1 f2
        go_wp2_with fail
        refine (Starts_ok O _ _ _ _ WB HCO.out HF.out.1).mono ?_
        rintro e wC ⟨nv, rfl, hsC, hbC⟩
        have HC1 := Lib.hid (HB1.out.below hbC)
        obtain ⟨an2, qn2, rfl, _, _, hnc⟩ := hsC.open
        rw [HOL.out] at hnc ⊢
        obtain ⟨bn, on, rfl, hbn, n1, n2⟩ := hnc h hh
        rw [HF.out.2] at n1 n2
        clear hbC hsC hnc k0 k1 k2 k3
        obtain ⟨ks, ks2⟩ := two_at (HC1.out.at 5 rfl)
        go_upto_region 17 with (fail)
        have hmin : ∃ mn : Int, min hi (c : Int) = mn := ⟨_, rfl⟩
        obtain ⟨mn, hmn⟩ := hmin
        simp only [hmn] at n1 n2
        have hm3 : (if (c : Int) < hi then (c : Int) else hi) = mn := by rw [← hmn]; split <;> omega
        clear hmn
        have hnq := neqs_Span1 lo mn
        have HD := Lib.hid HC1.out.drew
        have hC : BoxS5 b5 bn (on + h * 2) b11 (.slice (some ⟨gr, 0, none⟩) rooms.length qr) lo mn lo hi wC.drew := ⟨(four_at (HD.out.at 0 rfl)).1, n1, n2, ks, ks2⟩
        clear n1 n2 ks ks2
        refine wp_region_noPanic ?_
        refine anyL_start (S := Till [] (BoxS5 b5 bn (on + h * 2) b11 (.slice (some ⟨gr, 0, none⟩) rooms.length qr) lo mn lo hi)) (by kernel_rfl) (fun _ => hC) (fun hT => ?_)
        refine takeL0 (i := 0) (d := 91) (v := ?_) rfl rfl (by kernel_rfl) (by kernel_rfl) (by kernel_rfl) (by kernel_rfl) (fun _ _ _ _ _ h => h) (by rfl) ?_ (fun _ => hC) ?_
        rotate_left
        · intro w
          go_simp
          try with_reducible rfl
        (try simp only [Act.put, List.setIfInBounds_toArray, List.set_cons_zero, List.set_cons_succ])
        refine takeL0 (i := 1) (d := 92) (v := ?_) rfl rfl (by kernel_rfl) (by kernel_rfl) (by kernel_rfl) (by kernel_rfl) (fun _ _ _ _ _ h => h) (by rfl) ?_ (fun _ => hC) ?_
        rotate_left
        · intro w
          go_simp
          try with_reducible rfl
        (try simp only [Act.put, List.setIfInBounds_toArray, List.set_cons_zero, List.set_cons_succ])
        refine takeL0 (i := 2) (d := 93) (v := ?_) rfl rfl (by kernel_rfl) (by kernel_rfl) (by kernel_rfl) (by kernel_rfl) (fun _ _ _ _ _ h => h) (by rfl) ?_ (fun _ => hC) ?_
        rotate_left
        · intro w
          go_simp
          try with_reducible rfl
        (try simp only [Act.put, List.setIfInBounds_toArray, List.set_cons_zero, List.set_cons_succ])
        refine takeL0 (i := 3) (d := 94) (v := ?_) rfl rfl (by kernel_rfl) (by kernel_rfl) (by kernel_rfl) (by kernel_rfl) (fun _ _ _ _ _ h => h) (by rfl) ?_ (fun _ => hC) ?_
        rotate_left
        · intro w
          go_simp
          try with_reducible rfl
        (try simp only [Act.put, List.setIfInBounds_toArray, List.set_cons_zero, List.set_cons_succ])
        refine takeL0 (i := 4) (d := 95) (v := ?_) rfl rfl (by kernel_rfl) (by kernel_rfl) (by kernel_rfl) (by kernel_rfl) (fun _ _ _ _ _ h => h) (by rfl) ?_ (fun _ => hC) ?_
        rotate_left
        · intro w
          go_simp
          try with_reducible rfl
        (try simp only [Act.put, List.setIfInBounds_toArray, List.set_cons_zero, List.set_cons_succ])
        refine takeL0 (i := 5) (d := 96) (v := ?_) rfl rfl (by kernel_rfl) (by kernel_rfl) (by kernel_rfl) (by kernel_rfl) (fun _ _ _ _ _ h => h) (by rfl) ?_ (fun _ => hC) ?_
        rotate_left
        · intro w
          go_simp
          try with_reducible rfl
        (try simp only [Act.put, List.setIfInBounds_toArray, List.set_cons_zero, List.set_cons_succ])
        refine takeL (i := 6) (d := 97) (v := ?_) rfl rfl (by kernel_rfl) (by kernel_rfl) (by kernel_rfl) (by kernel_rfl) (by kernel_rfl) (by kernel_rfl) (fun _ _ _ _ _ h => h) (by rfl) ?_ hC ?_
        rotate_left
        · intro w hSw
          (try dsimp only at hSw)
          obtain ⟨hS0, hS1, hS2, hS3, hS4⟩ := hSw
          go_simp
          try with_reducible rfl
        (try simp only [Act.put, List.setIfInBounds_toArray, List.set_cons_zero, List.set_cons_succ])
        refine takeL0 (i := 7) (d := 98) (v := ?_) rfl rfl (by kernel_rfl) (by kernel_rfl) (by kernel_rfl) (by kernel_rfl) (fun _ _ _ _ _ h => h) (by rfl) ?_ (fun _ => hC) ?_
        rotate_left
        · intro w
          go_simp
          try with_reducible rfl
        (try simp only [Act.put, List.setIfInBounds_toArray, List.set_cons_zero, List.set_cons_succ])
        refine takeL0 (i := 8) (d := 99) (v := ?_) rfl rfl (by kernel_rfl) (by kernel_rfl) (by kernel_rfl) (by kernel_rfl) (fun _ _ _ _ _ h => h) (by rfl) ?_ (fun _ => hC) ?_
        rotate_left
        · intro w
          go_simp
          try with_reducible rfl
        (try simp only [Act.put, List.setIfInBounds_toArray, List.set_cons_zero, List.set_cons_succ])
        refine takeL0 (i := 9) (d := 100) (v := ?_) rfl rfl (by kernel_rfl) (by kernel_rfl) (by kernel_rfl) (by kernel_rfl) (fun _ _ _ _ _ h => h) (by rfl) ?_ (fun _ => hC) ?_
        rotate_left
        · intro w
          go_simp
          try with_reducible rfl
        (try simp only [Act.put, List.setIfInBounds_toArray, List.set_cons_zero, List.set_cons_succ])
        refine takeL0 (i := 10) (d := 101) (v := ?_) rfl rfl (by kernel_rfl) (by kernel_rfl) (by kernel_rfl) (by kernel_rfl) (fun _ _ _ _ _ h => h) (by rfl) ?_ (fun _ => hC) ?_
        rotate_left
        · intro w
          go_simp
          try with_reducible rfl
        (try simp only [Act.put, List.setIfInBounds_toArray, List.set_cons_zero, List.set_cons_succ])
        refine takeL0 (i := 11) (d := 102) (v := ?_) rfl rfl (by kernel_rfl) (by kernel_rfl) (by kernel_rfl) (by kernel_rfl) (fun _ _ _ _ _ h => h) (by rfl) ?_ (fun _ => hC) ?_
        rotate_left
        · intro w
          go_simp
          try with_reducible rfl
        (try simp only [Act.put, List.setIfInBounds_toArray, List.set_cons_zero, List.set_cons_succ])
        refine takeL0 (i := 12) (d := 103) (v := ?_) rfl rfl (by kernel_rfl) (by kernel_rfl) (by kernel_rfl) (by kernel_rfl) (fun _ _ _ _ _ h => h) (by rfl) ?_ (fun _ => hC) ?_
        rotate_left
        · intro w
          go_simp
          try with_reducible rfl
        (try simp only [Act.put, List.setIfInBounds_toArray, List.set_cons_zero, List.set_cons_succ])
        refine takeL0 (i := 13) (d := 104) (v := ?_) rfl rfl (by kernel_rfl) (by kernel_rfl) (by kernel_rfl) (by kernel_rfl) (fun _ _ _ _ _ h => h) (by rfl) ?_ (fun _ => hC) ?_
        rotate_left
        · intro w
          go_simp
          try with_reducible rfl
        (try simp only [Act.put, List.setIfInBounds_toArray, List.set_cons_zero, List.set_cons_succ])
        refine takeL0 (i := 15) (d := 106) (v := ?_) rfl rfl (by kernel_rfl) (by kernel_rfl) (by kernel_rfl) (by kernel_rfl) (fun _ _ _ _ _ h => h) (by rfl) ?_ (fun _ => hC) ?_
        rotate_left
        · intro w
          go_simp
          try with_reducible rfl
        (try simp only [Act.put, List.setIfInBounds_toArray, List.set_cons_zero, List.set_cons_succ])
        refine takeL0 (i := 17) (d := 108) (v := ?_) rfl rfl (by kernel_rfl) (by kernel_rfl) (by kernel_rfl) (by kernel_rfl) (fun _ _ _ _ _ h => h) (by rfl) ?_ (fun _ => hC) ?_
        rotate_left
        · intro w
          go_simp
          try with_reducible rfl
        (try simp only [Act.put, List.setIfInBounds_toArray, List.set_cons_zero, List.set_cons_succ])
        refine takeL0 (i := 19) (d := 110) (v := ?_) rfl rfl (by kernel_rfl) (by kernel_rfl) (by kernel_rfl) (by kernel_rfl) (fun _ _ _ _ _ h => h) (by rfl) ?_ (fun _ => hC) ?_
        rotate_left
        · intro w
          go_simp
          try with_reducible rfl
        (try simp only [Act.put, List.setIfInBounds_toArray, List.set_cons_zero, List.set_cons_succ])
        refine takeL (i := 14) (d := 105) (v := ?_) rfl rfl (by kernel_rfl) (by kernel_rfl) (by kernel_rfl) (by kernel_rfl) (by kernel_rfl) (by kernel_rfl) (fun _ _ _ _ _ h => h) (by rfl) ?_ hC ?_
        rotate_left
        · intro w hSw
          (try dsimp only at hSw)
          obtain ⟨hS0, hS1, hS2, hS3, hS4⟩ := hSw
          go_simp
          try with_reducible rfl
        (try simp only [Act.put, List.setIfInBounds_toArray, List.set_cons_zero, List.set_cons_succ])
        refine takeL (i := 16) (d := 107) (v := ?_) rfl rfl (by kernel_rfl) (by kernel_rfl) (by kernel_rfl) (by kernel_rfl) (by kernel_rfl) (by kernel_rfl) (fun _ _ _ _ _ h => h) (by rfl) ?_ hC ?_
        rotate_left
        · intro w hSw
          (try dsimp only at hSw)
          obtain ⟨hS0, hS1, hS2, hS3, hS4⟩ := hSw
          go_simp
          try with_reducible rfl
        (try simp only [Act.put, List.setIfInBounds_toArray, List.set_cons_zero, List.set_cons_succ])
        refine takeL (i := 18) (d := 109) (v := ?_) rfl rfl (by kernel_rfl) (by kernel_rfl) (by kernel_rfl) (by kernel_rfl) (by kernel_rfl) (by kernel_rfl) (fun _ _ _ _ _ h => h) (by rfl) ?_ hC ?_
        rotate_left
        · intro w hSw
          (try dsimp only at hSw)
          obtain ⟨hS0, hS1, hS2, hS3, hS4⟩ := hSw
          go_simp
          try with_reducible rfl
        (try simp only [Act.put, List.setIfInBounds_toArray, List.set_cons_zero, List.set_cons_succ])
        refine takeL0 (i := 20) (d := 111) (v := ?_) rfl rfl (by kernel_rfl) (by kernel_rfl) (by kernel_rfl) (by kernel_rfl) (fun _ _ _ _ _ h => h) (by rfl) ?_ (fun _ => hC) ?_
        rotate_left
        · intro w
          go_simp
          try with_reducible rfl
        (try simp only [Act.put, List.setIfInBounds_toArray, List.set_cons_zero, List.set_cons_succ])
        refine nextW (i := 21) rfl (by kernel_rfl) (by rfl) (fun K hK => ?_)
        go_simp
        refine (span_any lo mn wC.drew).mono ?_
        rintro e wS ⟨rfl, hwS⟩
        have hbS : Below wC.drew.heap.size wC.drew wS := by rw [← hwS]; exact (Below.refl _ _).alloc (Nat.le_refl _) _
        have HS1 := Lib.hid (HD.out.below hbS)
        have hC2 := hC.below hbS
        clear hC hwS hbS
        have hC := hC2
        clear hC2
        go_simp
        refine hK.out _ _ (fun _ => hC) ?_
        clear hK K
        (try simp only [Act.put, List.setIfInBounds_toArray, List.set_cons_zero, List.set_cons_succ])
        refine takeL0 (i := 22) (d := 113) (v := ?_) rfl rfl (by kernel_rfl) (by kernel_rfl) (by kernel_rfl) (by kernel_rfl) (fun _ _ _ _ _ h => h) (by rfl) ?_ (fun _ => hC) ?_
        rotate_left
        · intro w
          go_simp
          try with_reducible rfl
        (try simp only [Act.put, List.setIfInBounds_toArray, List.set_cons_zero, List.set_cons_succ])
        refine takeL0 (i := 23) (d := 114) (v := ?_) rfl rfl (by kernel_rfl) (by kernel_rfl) (by kernel_rfl) (by kernel_rfl) (fun _ _ _ _ _ h => h) (by rfl) ?_ (fun _ => hC) ?_
        rotate_left
        · intro w
          go_simp
          try with_reducible rfl
        (try simp only [Act.put, List.setIfInBounds_toArray, List.set_cons_zero, List.set_cons_succ])
        refine anyL_done (by kernel_rfl) ?_ _
        refine NoPanic.normal ?_
        clear hC hnq hm3 hT
        go_wp2_with fail
        go_roundw
        case rel => exact ⟨c + 1, by omega, by go_num, (HS1.out.left (qs := [_, _, _, _, _]))⟩
        case measure => simp [intOf]; omega
    · obtain rfl : c = ρ + 1 := by omega
      have HPL := Lib.hid HR.out.low
      clear HR HP6
      go_wp2_with fail
      refine (awake_any wr).mono ?_
      rintro e w6 ⟨rfl, hb6⟩
      go_wp2_with fail
      go_ret
      exact ⟨rfl, HPL.out.trans (hb6.mono HPL.out.size)⟩
end Go.Proofs.Ytnhifinfjfpoiaa

namespace Go.Proofs.Ytnhifinfjfpoiaa
open Go.RowKit Go.ChangeShapes Go.WideShapes Go.ChangeAt

theorem ownKnob_none : ownKnob Try.prog.godebug = none := by kernel_rfl
theorem laidOut_yes : laidOutB Try.prog = true := by kernel_rfl

set_option maxRecDepth 100000 in
theorem ratStarted_lifted (os : Os) (started : os.Started) (H : Type) (enc : TypeId × Value → H) :
    ReturnsInHanded {} Try.checked os 10 .any (Rows.ratStartedSpec.pre6 enc Try.prog Try.f10 Rows.ratStartedRow.domain false) (Rows.ratStartedSpec.post enc Try.prog Try.f10 false true false false) := by
  refine returnsInHanded_of_change_sized (C := Try.checked) ownKnob_none started (by kernel_rfl) Try.func10
    (ChangeSpec.witness6 (enc := enc) (C := Try.checked) false ⟨#[], #[.slice none 0 0, .int .i64 0], []⟩ 8 (by kernel_rfl) (by kernel_rfl) (by kernel_rfl) (by kernel_rfl)) ?_
  intro W base args ds gs before hval0 hW0 _ hsz0 _
  have hval : ∀ (j : Nat) t v, Try.f10.params[j]? = some t → args[j]? = some v → Value.okWide Try.prog W .any base t v := hval0
  have hsz : (DataW.weightsEach Try.prog (Try.f10.params.toList ++ Rows.ratStartedSpec.plain.varTypes Try.prog) (ds ++ gs)).all (· ≤ reachBytes) = true := hsz0
  have hW := hW0
  obtain ⟨p, q, hA0, hV, rfl, hfz, hnd⟩ := hW
  have hA : DataW.TrodAll enc Try.prog W 0 (fun _ => true) true Try.f10.params.toList args.toList ds p := hA0
  rw [Try.params10] at hA hval hsz
  obtain ⟨v0, v1, d0, d1, p0, p1, rfl, rfl, rfl, h0, h1⟩ := trodAll_two hA
  obtain ⟨rfl, rfl⟩ := trodVars_none hV
  have k0 := h0
  have k1 := h1
  obtain ⟨b0, hb0⟩ := open_bytes (hval 0 _ v0 rfl rfl) h0 (fun m hm => by
    have := List.all_eq_true.1 hsz m (DataW.weights_mem_each (j := 0) rfl rfl m hm)
    simpa using this)
  obtain ⟨a1, rfl, rfl, rfl, wa1⟩ := open_int Try.underlying3 (hval 1 _ v1 rfl rfl) h1
  refine (ratStarted_any v0 b0 a1 W hb0).mono fun e W' ⟨he, hb⟩ => ?_
  subst he
  have hlt0 : ∀ x ∈ p0, x.block < W.heap.size := fun x hx => hW0.lt x (by simp [hx])
  have s0 := Below.trod laidOut_yes (by kernel_rfl) (of_decide_eq_true (by kernel_rfl)) k0 hb hlt0
  exact ⟨_, rfl, _, _, _, [], _, _, hW0, trodAll_mk1 (shut_bool Try.underlying4 true), trodAll_mk2 s0 (shut_int Try.underlying3 wa1), rfl, hb.frame _, fun h => by cases h⟩

theorem ratStarted_holds : Rows.RatStartedSaid :=
  OpenClaim.holds_of_wide 10 Try.f10 rfl rfl rfl rfl rfl rfl rfl ⟨rfl, rfl, rfl, rfl, rfl⟩ rfl rfl rfl rfl rfl (by kernel_rfl) Try.func10 (by kernel_rfl)
    (of_decide_eq_true (by kernel_rfl)) (by unfold Func.isWrapper; first | (rw [if_pos (by decide +kernel)]; kernel_rfl) | (rw [if_neg (by decide +kernel)]; exact ⟨rfl, rfl⟩))
    (fun os started H enc _ => ratStarted_lifted os started H enc)
end Go.Proofs.Ytnhifinfjfpoiaa
