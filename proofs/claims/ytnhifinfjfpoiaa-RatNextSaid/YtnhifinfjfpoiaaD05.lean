/- RatNext holds: for whatever bytes the law answers true, and what came in reads as it read before. No condition is laid on the arguments beyond the form's own reach. -/
import Derived.Test.YtnhifinfjfpoiaaK11
import Derived.Test.YtnhifinfjfpoiaaK15
import Derived.Test.YtnhifinfjfpoiaaK18
import Derived.Test.YtnhifinfjfpoiaaK13
import Derived.Test.YtnhifinfjfpoiaaK14
import Derived.Test.YtnhifinfjfpoiaaK05
import Derived.Test.YtnhifinfjfpoiaaK08
import Derived.Test.YtnhifinfjfpoiaaRows
import Derived.Test.YtnhifinfjfpoiaaK12
namespace Go.Proofs.Ytnhifinfjfpoiaa
open Go.RowKit
set_option linter.unusedVariables false
set_option linter.unusedSimpArgs false

theorem eqs_Span1 (a b : Int) : ∀ w : World, (binOp .eql 49 (.agg #[.int .i64 a, .int .i64 b]) (.agg #[.int .i64 a, .int .i64 b])).run Try.prog w = .ok (.bool true) w := fun w => by
  have h := neq_Span w a b a b
  rw [run_neq_struct] at h
  rw [run_eql_struct]
  cases hq : (Op.equalIn 10000 49 (.agg #[.int .i64 a, .int .i64 b]) (.agg #[.int .i64 a, .int .i64 b])).run Try.prog w <;> rw [hq] at h <;> simp [Result.andThen] at h ⊢
  exact h
def ntParts (b5 B : Nat) (r t u nn : Value) (n : Nat) (rooms traps : List Int) (rs : List (Int × Int)) (nb : Nat → Nat) (N : List (List Int)) (b6 : Nat) (lo hi : Int) : List Part :=
  [pBlk b5 26 #[r, t, u, nn], pRow B 3 1 n r (intsV rooms), pRow B 3 1 n t (intsV traps), pRow B 63 2 rs.length u (pairsV rs), pRows B n nn nb N, pBlk b6 49 #[.int .i64 lo, .int .i64 hi]]
def Cell1 (b o : Nat) (x : Value) (W : World) : Prop := W.cell? ⟨b, o, none⟩ = some x ∧ True
def Box3x (b o b6 : Nat) (x lo hi : Int) (W : World) : Prop := W.cell? ⟨b, o, none⟩ = some (.int .i64 x) ∧ W.cell? ⟨b6, 0, none⟩ = some (.int .i64 lo) ∧ W.cell? ⟨b6, 1, none⟩ = some (.int .i64 hi)
def Box6x (b5 bn k nb h gt ba oa : Nat) (nv rw_ tv : Value) (x y z : Int) (W : World) : Prop :=
  W.cell? ⟨b5, 3, none⟩ = some nv ∧ W.cell? ⟨bn, k, none⟩ = some rw_ ∧ W.cell? ⟨nb, h, none⟩ = some (.int .i64 x) ∧ W.cell? ⟨b5, 1, none⟩ = some tv ∧ W.cell? ⟨gt, h, none⟩ = some (.int .i64 y) ∧ W.cell? ⟨ba, oa, none⟩ = some (.int .i64 z)
def Box24 (b20 b5 : Nat) (nv rv : Value) (W : World) : Prop := W.cell? ⟨b20, 3, none⟩ = some nv ∧ W.cell? ⟨b5, 0, none⟩ = some rv
def Box6s (b21 b8 b24 : Nat) (lo hi : Int) (W : World) : Prop :=
  W.cell? ⟨b21, 0, none⟩ = some (.int .i64 lo) ∧ W.cell? ⟨b21, 1, none⟩ = some (.int .i64 lo) ∧ W.cell? ⟨b8, 0, none⟩ = some (.int .i64 lo) ∧ W.cell? ⟨b8, 1, none⟩ = some (.int .i64 hi) ∧ W.cell? ⟨b24, 0, none⟩ = some (.int .i64 0) ∧ W.cell? ⟨b24, 1, none⟩ = some (.int .i64 0)
theorem Box6s.below {b21 b8 b24 : Nat} {lo hi : Int} {W W' : World} (k : Box6s b21 b8 b24 lo hi W) (hb : Below W.heap.size W W') : Box6s b21 b8 b24 lo hi W' := by
  have key : ∀ (b o : Nat) (v : Value), W.cell? ⟨b, o, none⟩ = some v → W'.cell? ⟨b, o, none⟩ = some v := fun b o v e => (hb.cell (p := ⟨b, o, none⟩) (block_lt_of_cell e)).trans e
  obtain ⟨h1, h2, h3, h4, h5, h6⟩ := k
  exact ⟨key _ _ _ h1, key _ _ _ h2, key _ _ _ h3, key _ _ _ h4, key _ _ _ h5, key _ _ _ h6⟩
/-- A copy of the colony with a further night. -/
def EmptyAt (w : World) (b20 ga ca : Nat) (ta1 : Option Addr) (ta2 : Nat) (ua1 : Option Addr) (ua2 n A1 A2 A3 A4 : Nat) (rooms traps : List Int) (rs : List (Int × Int)) (N : List (List Int)) (b8 : Nat) (lo hi : Int) (W : World) : Prop :=
  ∃ g cap nbE, PW w W [pBlk b20 26 #[.slice (some ⟨ga, 0, none⟩) n ca, .slice ta1 n ta2, .slice ua1 rs.length ua2, .slice (some ⟨g, 0, none⟩) (N.length + 1) cap], pRow A1 3 1 n (.slice (some ⟨ga, 0, none⟩) n ca) (intsV rooms), pRow A2 3 1 n (.slice ta1 n ta2) (intsV traps), pRow A3 63 2 rs.length (.slice ua1 rs.length ua2) (pairsV rs), pRows A4 n (.slice (some ⟨g, 0, none⟩) (N.length + 1) cap) nbE (N ++ [List.replicate n 0]), pBlk b8 49 #[.int .i64 lo, .int .i64 hi]]
/-- What the law keeps in mind of memory. -/
abbrev NtAt (w : World) (ps : List Part) (nv av : Value) (A D : List Int) (W : World) : Prop := CtAt w ps (.slice none 0 0) (.slice none 0 0) nv (.slice none 0 0) av [] [] D [] A W

set_option maxRecDepth 100000 in
set_option maxHeartbeats 8000000 in
theorem ratNext_any (v1 : Value) (xs1 : List Int) (w : World) (h1 : IsBytes w w.heap.size v1 xs1) :
    Calls Try.prog 8 #[v1] w fun e w' => e = .returned (.bool true) ∧ Below w.heap.size w w' := by
  have HB := Lib.hid h1
  clear h1
  go_enter Try.func8, Try.ntmps8
  go_wp2_with fail
  refine (fill_any v1 xs1 w HB.out).mono ?_
  rintro e w1 ⟨rfl, hc1, hb1, hz1⟩
  have HP1 := Lib.hid ((PW.start w).fill hc1 hb1)
  obtain ⟨p1, hp1⟩ : ∃ p1, w.heap.size = p1 := ⟨_, rfl⟩
  have hP1 := HP1.out
  rw [hp1] at hP1
  have HP1 := Lib.hid hP1
  rw [hp1]
  clear hc1 hb1 hz1 hP1 hp1
  go_wp2_with fail
  refine (made_any p1 v1 xs1 5 4 w1 (HP1.out.chute 0 rfl HB.out) (by omega) (by omega)).mono ?_
  rintro e w2 ⟨r, t, u, nv, cv, lv, fv, rooms, traps, rs, k, N, T, M, L, left, rfl, hI, hcol, hT, hL, hF, hc2, ht2, nbN, nbT, bL, Lf, rfl, hLf, hsep⟩
  have HI := Lib.hid hI
  have HP2 := Lib.hid (((HP1.out.made 0 rfl hc2 ht2 hsep).newBlk 26 #[r, t, u, nv]).newBlk 55 #[cv, .slice (some ⟨bL, 0, none⟩) rooms.length rooms.length])
  have hn0 : 0 < rooms.length := hI.made.many.1
  have hn5 : (rooms.length : Int) ≤ 5 := hI.few
  obtain ⟨ar, qr, rfl⟩ := owns_slice (hsep.at 0 rfl)
  obtain ⟨at_, qt, rfl⟩ := owns_slice (hsep.at 1 rfl)
  obtain ⟨au, qu, rfl⟩ := owns_slice (hsep.at 2 rfl)
  obtain ⟨⟨fsN, hoN, qx1⟩, qx2⟩ : (pRows w1.heap.size rooms.length nv nbN N).told w2 := hsep.at 3 rfl
  obtain ⟨⟨fsT, hoT, qx3⟩, qx4⟩ : (pRows w1.heap.size rooms.length cv nbT T).told w2 := hsep.at 4 rfl
  clear qx1 qx2 qx3 qx4
  obtain ⟨an, qn, rfl⟩ := owns_slice hoN
  obtain ⟨ac, qc, rfl⟩ := owns_slice hoT
  obtain ⟨al, ql, rfl⟩ := owns_slice (hsep.at 6 rfl)
  have HC2 := Lib.hid hcol
  clear hI hcol hT hL hF hc2 ht2 hLf hsep hoN hoT
  go_wp2_with fail
  obtain ⟨W3, hW3⟩ : ∃ W3, (w2.alloc (.cells #[.slice ar rooms.length qr, .slice at_ rooms.length qt, .slice au rs.length qu, .slice an N.length qn] 26)).alloc (.cells #[.slice ac T.length qc, .slice (some ⟨bL, 0, none⟩) rooms.length rooms.length] 55) = W3 := ⟨_, rfl⟩
  obtain ⟨b5, hb5⟩ : ∃ b5, w2.heap.size = b5 := ⟨_, rfl⟩
  have hP2 := HP2.out
  have hcol3 : ColAt W3 W3.heap.size (.slice ar rooms.length qr) (.slice at_ rooms.length qt) (.slice au rs.length qu) (.slice an N.length qn) ⟨rooms, traps, rs, N⟩ := by
    rw [← hW3]
    exact (HC2.out.below (((Below.refl _ _).alloc (Nat.le_refl _) _).alloc (by simp) _) (Nat.le_refl _)).mono (by simp; omega)
  rw [hW3, hb5] at hP2
  rw [hW3]
  have HP3 := Lib.hid hP2
  have HC3 := Lib.hid hcol3
  have hb6 : ∃ b6, w2.heap.size + 1 = b6 := ⟨_, rfl⟩
  obtain ⟨b6, hb6⟩ := hb6
  rw [hb5] at hb6
  rw [hb5]
  (try rw [hb6])
  clear hW3 hP2 hcol3 HC2 HP2 hb5
  obtain ⟨gr, cr, er, hcr, _⟩ := int_row_cells (HP3.out.at 1 rfl) rfl hn0
  cases er
  obtain ⟨gt, ct, er, hct, _⟩ := int_row_cells (HP3.out.at 2 rfl) HI.out.made.trapN hn0
  cases er
  obtain ⟨C, hCe⟩ : ∃ C : Col, (⟨rooms, traps, rs, N⟩ : Col) = C := ⟨_, rfl⟩
  have hfe := HI.out.fitErr (by omega)
  have hck := HI.out.check (by omega)
  rw [hCe] at hfe hck HC3
  have HFE := Lib.hid hfe
  have HCK := Lib.hid hck
  have HCE := Lib.hid hCe
  have HRL : Hid (C.rooms = rooms) := by rw [← hCe]; exact rfl
  have HNL : Hid (C.nights = N) := by rw [← hCe]; exact rfl
  have HTL : Hid (C.traps = traps) := by rw [← hCe]; exact rfl
  have HTN := Lib.hid HI.out.made.trapN
  have HNB : Hid (∀ i j, i < N.length → j < rooms.length → 0 ≤ nth (nthR N i) j ∧ nth (nthR N i) j ≤ 3) := (HI.out.caught.cells HI.out.made.trapB).1
  have hNl : N.length ≤ 4 := by have := HI.out.caught.lenN; have := HI.out.nights; omega
  have HOK := Lib.hid (show OwnOk rooms.length ⟨rooms, traps, rs, N⟩ from ⟨hn0, rfl, HI.out.made.trapN, by have := HI.out.made.few; show rs.length ≤ 100; omega, by show N.length ≤ 100; omega, by have := HI.out.made.many.2; omega, fun j hj => HI.out.caught.rowN j (by rw [← HI.out.caught.lenN]; exact hj)⟩)
  have H3 := Lib.hid (show CtAt w _ _ _ _ _ _ [] [] [] [] [] W3 from ⟨HP3.out.pick (ps' := madeBox b5 w1.heap.size (.slice (some ⟨gr, 0, none⟩) rooms.length qr) (.slice (some ⟨gt, 0, none⟩) rooms.length qt) (.slice au rs.length qu) (.slice an N.length qn) rooms.length rooms traps rs nbN N) [8, 1, 2, 3, 4] (by decide) rfl, rows_nil _ _, ints_nil _ _, ints_nil _ _, pairs_nil _ _, ints_nil _ _⟩)
  obtain ⟨lo, hlo⟩ : ∃ lo, (ratsC C).1 = lo := ⟨_, rfl⟩
  obtain ⟨hi, hhi⟩ : ∃ hi, (ratsC C).2 = hi := ⟨_, rfl⟩
  have HLH := Lib.hid (And.intro hlo hhi)
  have HAL : Hid ((afterC C).length = rooms.length) := by rw [← hCe]; exact afterTo_len _ _
  have HDL : Hid ((needC C).length = rooms.length) := by rw [← hCe]; exact needTo_len _ _
  have hbd := rats_bounds (okCol_of hck)
  rw [hlo, hhi] at hbd
  have HBD := Lib.hid hbd
  have HCOL : Hid (∀ W ps, PW w W ps → ps[1]? = some (pRow w1.heap.size 3 1 rooms.length (.slice (some ⟨gr, 0, none⟩) rooms.length qr) (intsV rooms)) → ps[2]? = some (pRow w1.heap.size 3 1 rooms.length (.slice (some ⟨gt, 0, none⟩) rooms.length qt) (intsV traps)) → ps[3]? = some (pRow w1.heap.size 63 2 rs.length (.slice au rs.length qu) (pairsV rs)) → ps[4]? = some (pRows w1.heap.size rooms.length (.slice an N.length qn) nbN N) → ColAt W W.heap.size (.slice (some ⟨gr, 0, none⟩) rooms.length qr) (.slice (some ⟨gt, 0, none⟩) rooms.length qt) (.slice au rs.length qu) (.slice an N.length qn) C) := fun W ps H e2 e3 e4 e5 => by
    rw [← HCE.out]
    exact made_read (by rw [HCE.out]; exact HCK.out) rfl (H.at 1 e2) (H.at 2 e3) (H.at 3 e4) (H.at 4 e5)
  clear hCe hfe hck hlo hhi hbd HP3 HP1 HI HC3 hb6
  refine (Rats_ok C _ _ _ _ W3 (HCOL.out _ _ H3.out.pw rfl rfl rfl rfl) HFE.out).mono ?_
  rintro e w5 ⟨rfl, hb5⟩
  rw [HLH.out.1, HLH.out.2]
  have H5 := Lib.hid ((H3.out.below hb5).newBlk 49 #[.int .i64 lo, .int .i64 hi])
  clear hb5 H3
  go_upto_region 3 with (fail)
  generalize Value.tuple #[Value.agg _, Value.agg _, _] = q27
  obtain ⟨W5, hW5⟩ : ∃ W5, w5.alloc (.cells #[.int .i64 lo, .int .i64 hi] 49) = W5 := ⟨_, rfl⟩
  obtain ⟨b8, hb8⟩ : ∃ b8, w5.heap.size = b8 := ⟨_, rfl⟩
  have h5 := H5.out
  rw [hW5, hb8] at h5
  rw [hW5, hb8]
  have H5 := Lib.hid (h5.same (qs := ntParts b5 w1.heap.size (.slice (some ⟨gr, 0, none⟩) rooms.length qr) (.slice (some ⟨gt, 0, none⟩) rooms.length qt) (.slice au rs.length qu) (.slice an N.length qn) rooms.length rooms traps rs nbN N b8 lo hi) rfl)
  clear hW5 hb8 h5
  obtain ⟨k0, k1, k2, k3⟩ := four_at (H5.out.pw.at 0 rfl)
  go_wp2_with fail
  refine (After_ok C _ _ _ _ W5 (HCOL.out _ _ H5.out.pw rfl rfl rfl rfl) HFE.out).mono ?_
  rintro e w6 ⟨av, rfl, hs6, hb6⟩
  obtain ⟨aa, qa, rfl, _, _, _⟩ := hs6.open
  rw [HAL.out] at hs6 ⊢
  have h6 := H5.out.below hb6
  have H6 := Lib.hid (show CtAt w _ _ _ _ _ _ [] [] [] [] _ w6 from ⟨h6.pw, h6.rows, h6.left, h6.inl, h6.starts, hs6⟩)
  clear hs6 hb6 h6 H5 k0 k1 k2 k3
  obtain ⟨k0, k1, k2, k3⟩ := four_at (H6.out.pw.at 0 rfl)
  go_wp2_with fail
  refine (Need_ok C _ _ _ _ w6 (HCOL.out _ _ H6.out.pw rfl rfl rfl rfl) HFE.out).mono ?_
  rintro e w7 ⟨nv, rfl, hs7, hb7⟩
  obtain ⟨ad, qd, rfl, _, _, _⟩ := hs7.open
  rw [HDL.out] at hs7 ⊢
  have h7 := H6.out.below hb7
  have H7 : Hid (NtAt w (ntParts b5 w1.heap.size (.slice (some ⟨gr, 0, none⟩) rooms.length qr) (.slice (some ⟨gt, 0, none⟩) rooms.length qt) (.slice au rs.length qu) (.slice an N.length qn) rooms.length rooms traps rs nbN N b8 lo hi) (.slice ad rooms.length qd) (.slice aa rooms.length qa) (afterC C) (needC C) w7) := ⟨h7.pw, h7.rows, h7.left, hs7, h7.starts, h7.after⟩
  clear hs7 hb7 h7 H6 k0 k1 k2 k3
  obtain ⟨k0, k1, k2, k3⟩ := four_at (H7.out.pw.at 0 rfl)
  go_wp2_with fail
  clear k0 k1 k2 k3
  go_loopw [77] (fun i wr => ∃ h : Nat, h ≤ rooms.length ∧ i = .int .i64 h ∧ Hid (NtAt w (ntParts b5 w1.heap.size (.slice (some ⟨gr, 0, none⟩) rooms.length qr) (.slice (some ⟨gt, 0, none⟩) rooms.length qt) (.slice au rs.length qu) (.slice an N.length qn) rooms.length rooms traps rs nbN N b8 lo hi) (.slice ad rooms.length qd) (.slice aa rooms.length qa) (afterC C) (needC C) wr)) (fun i _ => rooms.length - (intOf i).toNat)
  case atStart => exact ⟨0, Nat.zero_le _, rfl, H7⟩
  case round =>
    obtain ⟨h, hh, rfl, HR⟩ := hrel
    by_cases hlt : h < rooms.length
    · have hhi2 : (h : Int) < rooms.length := by omega
      have hhC : h < C.rooms.length := by rw [HRL.out]; exact hlt
      have hln := next_law HFE.out hhC
      rw [HLH.out.1, HLH.out.2] at hln
      have hre : reachErr C (h : Int) 1 = 0 := by
        unfold reachErr
        rw [if_pos HCK.out, if_pos (inB_of ⟨by omega, by rw [HRL.out]; omega⟩), if_pos (by rfl)]
      have HRE := Lib.hid hre
      obtain ⟨l, hl⟩ : ∃ l, members (nearC C h) = l := ⟨_, rfl⟩
      have HLE : Hid (members (reachN C ((h : Int)).toNat ((1 : Int)).toNat) = l) := by
        show members (reachN C ((h : Int)).toNat 1) = l
        rw [Int.toNat_natCast, reach_one (okCol_of HCK.out) hhC]; exact hl
      rw [hl] at hln
      obtain ⟨nd, hnd⟩ : ∃ nd, nth (needC C) h = nd := ⟨_, rfl⟩
      rw [hnd] at hln
      have HND := Lib.hid hnd
      have HLN := Lib.hid hln
      clear hre hl hln hnd
      obtain ⟨k0, k1, k2, k3⟩ := four_at (HR.out.pw.at 0 rfl)
      clear H7
      go_wp2_with fail
      refine (Reaches_good C _ _ _ _ h 1 wr (HCOL.out _ _ HR.out.pw rfl rfl rfl rfl) HRE.out).mono ?_
      rintro e w9 ⟨lv, rfl, hlv, hb9⟩
      rw [HLE.out] at hlv
      obtain ⟨a9, q9, rfl, _, _, _⟩ := hlv.open
      rw [natsI_len] at *
      have H9 := Lib.hid (HR.out.below hb9)
      have HLV := Lib.hid hlv
      clear hlv hb9 k0 k1 k2 k3
      go_wp2_with fail
      obtain ⟨wo1, rfl⟩ : ∃ wo1 : World, wo1 = wr := ⟨_, rfl⟩
      go_loopw [15, 16, 90] (fun xv sv i wq => ∃ k : Nat, ∃ mx : Int, k ≤ l.length ∧ i = .int .i64 k ∧ xv = .int .i64 mx ∧ 0 ≤ mx ∧ mx ≤ nd ∧ sv = .int .i64 (sumN (fun i => nth (afterC C) (l.getD i 0)) k) ∧ Hid (NtAt w (ntParts b5 w1.heap.size (.slice (some ⟨gr, 0, none⟩) rooms.length qr) (.slice (some ⟨gt, 0, none⟩) rooms.length qt) (.slice au rs.length qu) (.slice an N.length qn) rooms.length rooms traps rs nbN N b8 lo hi) (.slice ad rooms.length qd) (.slice aa rooms.length qa) (afterC C) (needC C) wq ∧ IsInts wq wq.heap.size (.slice a9 l.length q9) (natsI l))) (fun _ _ i _ => l.length - (intOf i).toNat)
      case atStart => exact ⟨0, 0, Nat.zero_le _, rfl, rfl, by omega, HLN.out.2.2.2.2, rfl, H9.out, HLV.out⟩
      case round =>
        obtain ⟨k, mx, hk, rfl, rfl, hm0, hm1, rfl, HR2⟩ := hrel
        have hl6 : l.length ≤ 6 := by
          have := members_len (nearC C h)
          rw [← HLE.out]
          exact members_len _
        have hsb : ∀ i, i < l.length → 0 ≤ nth (afterC C) (l.getD i 0) ∧ nth (afterC C) (l.getD i 0) ≤ 360 := fun i hi => after_bound HFE.out (HLN.out.1 _ (by rw [List.getD_eq_getElem?_getD, List.getElem?_eq_getElem hi]; exact List.getElem_mem hi))
        have hs1 : 0 ≤ sumN (fun i => nth (afterC C) (l.getD i 0)) k := sumN_nonneg fun i hi => (hsb i (by omega)).1
        have hs2 : sumN (fun i => nth (afterC C) (l.getD i 0)) k ≤ 360 * k := sumN_bound fun i hi => (hsb i (by omega)).2
        obtain ⟨S, hS⟩ : ∃ S, sumN (fun i => nth (afterC C) (l.getD i 0)) k = S := ⟨_, rfl⟩
        rw [hS] at hs1 hs2 ⊢
        have HSS := Lib.hid hS
        clear hS H9 HLV
        by_cases hkl : k < l.length
        · have hki : (k : Int) < l.length := by omega
          obtain ⟨o, ho⟩ : ∃ o, l.getD k 0 = o := ⟨_, rfl⟩
          have hmem : o ∈ l := by rw [← ho, List.getD_eq_getElem?_getD, List.getElem?_eq_getElem hkl]; exact List.getElem_mem hkl
          have hoC := HLN.out.1 o hmem
          have hao := HLN.out.2.1 o hmem
          have hab := hsb k hkl
          rw [ho] at hab
          have hon : o < rooms.length := by rw [← HRL.out]; exact hoC
          obtain ⟨x9, y9, e9, _, _, hc9⟩ := HR2.out.2.open
          rw [natsI_len] at e9 hc9
          obtain ⟨b9, o9, e10, hb9, m9⟩ := hc9 k hkl
          have e11 : a9 = x9 := by injection e9
          subst e11
          subst e10
          have hno : nth (natsI l) k = (o : Int) := by
            rw [← ho]
            unfold natsI nth
            simp [List.getD_eq_getElem?_getD, hkl]
          rw [hno] at m9
          obtain ⟨x8, y8, e8, _, _, hc8⟩ := HR2.out.1.after.open
          rw [HAL.out] at hc8
          obtain ⟨b10, o10, e12, hb10, m10⟩ := hc8 o hon
          have e13 : aa = x8 := by injection e8
          subst e13
          subst e12
          obtain ⟨af, haf⟩ : ∃ af, nth (afterC C) o = af := ⟨_, rfl⟩
          rw [haf] at hab hao m10
          have HOA := Lib.hid (And.intro ho haf)
          have hoi : (o : Int) < rooms.length := by omega
          have hws : IntKind.i64.wrap (S + af) = S + af := by rw [IntKind.wrap_i64]; omega
          clear hno hc8 hc9 e8 e9 hb9 hb10 ho haf hmem hoC hsb
          go_upto_region 19 with (fail)
          have hC : Cell1 b10 (o10 + o) (.int .i64 af) wr.drew := ⟨m10, trivial⟩
          have HD := Lib.hid (And.intro HR2.out.1.drew (HR2.out.2.below ((Below.refl wr.heap.size wr).drew) (Nat.le_refl _)))
          clear m10 m9
          obtain ⟨m2, hm2⟩ : ∃ m2 : Int, max mx af = m2 := ⟨_, rfl⟩
          have hm3 : 0 ≤ m2 ∧ m2 ≤ nd := by rw [← hm2]; omega
          have q1 : (if mx < af then af else mx) = m2 := by rw [← hm2]; split <;> omega
          have q2 : (if af < mx then mx else af) = m2 := by rw [← hm2]; split <;> omega
          have q3 : (if mx ≤ af then af else mx) = m2 := by rw [← hm2]; split <;> omega
          clear hm2
          refine wp_region_noPanic ?_
          refine anyL_start (S := Till [] (Cell1 b10 (o10 + o) (.int .i64 af))) (by kernel_rfl) (fun _ => hC) (fun hT => ?_)
          refine takeL0 (i := 0) (d := 102) (v := ?_) rfl rfl (by kernel_rfl) (by kernel_rfl) (by kernel_rfl) (by kernel_rfl) (fun _ _ _ _ _ h => h) (by rfl) ?_ (fun _ => hC) ?_
          rotate_left
          · intro w
            go_simp
            try with_reducible rfl
          (try simp only [Act.put, List.setIfInBounds_toArray, List.set_cons_zero, List.set_cons_succ])
          refine takeL0 (i := 1) (d := 103) (v := ?_) rfl rfl (by kernel_rfl) (by kernel_rfl) (by kernel_rfl) (by kernel_rfl) (fun _ _ _ _ _ h => h) (by rfl) ?_ (fun _ => hC) ?_
          rotate_left
          · intro w
            go_simp
            try with_reducible rfl
          (try simp only [Act.put, List.setIfInBounds_toArray, List.set_cons_zero, List.set_cons_succ])
          refine takeL0 (i := 2) (d := 104) (v := ?_) rfl rfl (by kernel_rfl) (by kernel_rfl) (by kernel_rfl) (by kernel_rfl) (fun _ _ _ _ _ h => h) (by rfl) ?_ (fun _ => hC) ?_
          rotate_left
          · intro w
            go_simp
            try with_reducible rfl
          (try simp only [Act.put, List.setIfInBounds_toArray, List.set_cons_zero, List.set_cons_succ])
          refine takeL0 (i := 3) (d := 105) (v := ?_) rfl rfl (by kernel_rfl) (by kernel_rfl) (by kernel_rfl) (by kernel_rfl) (fun _ _ _ _ _ h => h) (by rfl) ?_ (fun _ => hC) ?_
          rotate_left
          · intro w
            go_simp
            try with_reducible rfl
          (try simp only [Act.put, List.setIfInBounds_toArray, List.set_cons_zero, List.set_cons_succ])
          refine takeL0 (i := 6) (d := 108) (v := ?_) rfl rfl (by kernel_rfl) (by kernel_rfl) (by kernel_rfl) (by kernel_rfl) (fun _ _ _ _ _ h => h) (by rfl) ?_ (fun _ => hC) ?_
          rotate_left
          · intro w
            go_simp
            try with_reducible rfl
          (try simp only [Act.put, List.setIfInBounds_toArray, List.set_cons_zero, List.set_cons_succ])
          refine takeL0 (i := 7) (d := 109) (v := ?_) rfl rfl (by kernel_rfl) (by kernel_rfl) (by kernel_rfl) (by kernel_rfl) (fun _ _ _ _ _ h => h) (by rfl) ?_ (fun _ => hC) ?_
          rotate_left
          · intro w
            go_simp
            try with_reducible rfl
          (try simp only [Act.put, List.setIfInBounds_toArray, List.set_cons_zero, List.set_cons_succ])
          refine takeL0 (i := 8) (d := 110) (v := ?_) rfl rfl (by kernel_rfl) (by kernel_rfl) (by kernel_rfl) (by kernel_rfl) (fun _ _ _ _ _ h => h) (by rfl) ?_ (fun _ => hC) ?_
          rotate_left
          · intro w
            go_simp
            try with_reducible rfl
          (try simp only [Act.put, List.setIfInBounds_toArray, List.set_cons_zero, List.set_cons_succ])
          refine takeL0 (i := 9) (d := 111) (v := ?_) rfl rfl (by kernel_rfl) (by kernel_rfl) (by kernel_rfl) (by kernel_rfl) (fun _ _ _ _ _ h => h) (by rfl) ?_ (fun _ => hC) ?_
          rotate_left
          · intro w
            go_simp
            try with_reducible rfl
          (try simp only [Act.put, List.setIfInBounds_toArray, List.set_cons_zero, List.set_cons_succ])
          refine takeL (i := 4) (d := 106) (v := ?_) rfl rfl (by kernel_rfl) (by kernel_rfl) (by kernel_rfl) (by kernel_rfl) (by kernel_rfl) (by kernel_rfl) (fun _ _ _ _ _ h => h) (by rfl) ?_ hC ?_
          rotate_left
          · intro w hSw
            (try dsimp only at hSw)
            obtain ⟨hS0, hS1⟩ := hSw
            go_simp
            try with_reducible rfl
          (try simp only [Act.put, List.setIfInBounds_toArray, List.set_cons_zero, List.set_cons_succ])
          refine takeL0 (i := 5) (d := 107) (v := ?_) rfl rfl (by kernel_rfl) (by kernel_rfl) (by kernel_rfl) (by kernel_rfl) (fun _ _ _ _ _ h => h) (by rfl) ?_ (fun _ => hC) ?_
          rotate_left
          · intro w
            go_simp
            try with_reducible rfl
          (try simp only [Act.put, List.setIfInBounds_toArray, List.set_cons_zero, List.set_cons_succ])
          refine takeL0 (i := 12) (d := 15) (v := ?_) rfl rfl (by kernel_rfl) (by kernel_rfl) (by kernel_rfl) (by kernel_rfl) (fun _ _ _ _ _ h => h) (by rfl) ?_ (fun _ => hC) ?_
          rotate_left
          · intro w
            go_simp
            try with_reducible rfl
          (try simp only [Act.put, List.setIfInBounds_toArray, List.set_cons_zero, List.set_cons_succ])
          refine takeL (i := 10) (d := 112) (v := ?_) rfl rfl (by kernel_rfl) (by kernel_rfl) (by kernel_rfl) (by kernel_rfl) (by kernel_rfl) (by kernel_rfl) (fun _ _ _ _ _ h => h) (by rfl) ?_ hC ?_
          rotate_left
          · intro w hSw
            (try dsimp only at hSw)
            obtain ⟨hS0, hS1⟩ := hSw
            go_simp
            try with_reducible rfl
          (try simp only [Act.put, List.setIfInBounds_toArray, List.set_cons_zero, List.set_cons_succ])
          refine takeL0 (i := 11) (d := 113) (v := ?_) rfl rfl (by kernel_rfl) (by kernel_rfl) (by kernel_rfl) (by kernel_rfl) (fun _ _ _ _ _ h => h) (by rfl) ?_ (fun _ => hC) ?_
          rotate_left
          · intro w
            go_simp
            try with_reducible rfl
          (try simp only [Act.put, List.setIfInBounds_toArray, List.set_cons_zero, List.set_cons_succ])
          refine takeL0 (i := 13) (d := 16) (v := ?_) rfl rfl (by kernel_rfl) (by kernel_rfl) (by kernel_rfl) (by kernel_rfl) (fun _ _ _ _ _ h => h) (by rfl) ?_ (fun _ => hC) ?_
          rotate_left
          · intro w
            go_simp
            try with_reducible rfl
          (try simp only [Act.put, List.setIfInBounds_toArray, List.set_cons_zero, List.set_cons_succ])
          refine anyL_done (by kernel_rfl) ?_ _
          refine NoPanic.normal ?_
          clear hC hT
          go_wp2_with fail
          go_roundw
          case rel => exact ⟨k + 1, m2, by omega, by go_num, rfl, hm3.1, hm3.2, by rw [sumN_succ, HSS.out, HOA.out.1, HOA.out.2], HD.out.1, HD.out.2⟩
          case measure => simp [intOf]; omega
        · obtain rfl : k = l.length := by omega
          have hnS : nd ≤ S := by rw [← HSS.out]; exact HLN.out.2.2.1
          have hnL : nd ≤ hi - lo := HLN.out.2.2.2.1
          obtain ⟨x9, y9, e9, _, _, hc9⟩ := HR2.out.1.inl.open
          rw [HDL.out] at hc9
          obtain ⟨b9, o9, e10, hb9, m9⟩ := hc9 h hlt
          have e11 : ad = x9 := by injection e9
          subst e11
          subst e10
          rw [HND.out] at m9
          have HD := Lib.hid HR2.out.1.drew
          have hC : Box3x b9 (o9 + h) b8 nd lo hi wr.drew := ⟨m9, (two_at (HD.out.pw.at 5 rfl)).1, (two_at (HD.out.pw.at 5 rfl)).2⟩
          have hbd := HBD.out
          have hsub : IntKind.i64.wrap (hi - lo) = hi - lo := by rw [IntKind.wrap_i64]; omega
          have q1 : decide (nd < mx) = false := decide_eq_false (by omega)
          have q2 : decide (S < nd) = false := decide_eq_false (by omega)
          have q3 : decide (hi - lo < nd) = false := decide_eq_false (by omega)
          clear hc9 e9 hb9 m9 HR2 hsb hbd
          go_upto_region 21 with (fail)
          refine wp_region_noPanic ?_
          refine anyL_start (S := Till [] (Box3x b9 (o9 + h) b8 nd lo hi)) (by kernel_rfl) (fun _ => hC) (fun hT => ?_)
          refine takeL0 (i := 0) (d := 115) (v := ?_) rfl rfl (by kernel_rfl) (by kernel_rfl) (by kernel_rfl) (by kernel_rfl) (fun _ _ _ _ _ h => h) (by rfl) ?_ (fun _ => hC) ?_
          rotate_left
          · intro w
            go_simp
            try with_reducible rfl
          (try simp only [Act.put, List.setIfInBounds_toArray, List.set_cons_zero, List.set_cons_succ])
          refine takeL0 (i := 1) (d := 116) (v := ?_) rfl rfl (by kernel_rfl) (by kernel_rfl) (by kernel_rfl) (by kernel_rfl) (fun _ _ _ _ _ h => h) (by rfl) ?_ (fun _ => hC) ?_
          rotate_left
          · intro w
            go_simp
            try with_reducible rfl
          (try simp only [Act.put, List.setIfInBounds_toArray, List.set_cons_zero, List.set_cons_succ])
          refine takeL0 (i := 2) (d := 117) (v := ?_) rfl rfl (by kernel_rfl) (by kernel_rfl) (by kernel_rfl) (by kernel_rfl) (fun _ _ _ _ _ h => h) (by rfl) ?_ (fun _ => hC) ?_
          rotate_left
          · intro w
            go_simp
            try with_reducible rfl
          (try simp only [Act.put, List.setIfInBounds_toArray, List.set_cons_zero, List.set_cons_succ])
          refine takeL0 (i := 4) (d := 119) (v := ?_) rfl rfl (by kernel_rfl) (by kernel_rfl) (by kernel_rfl) (by kernel_rfl) (fun _ _ _ _ _ h => h) (by rfl) ?_ (fun _ => hC) ?_
          rotate_left
          · intro w
            go_simp
            try with_reducible rfl
          (try simp only [Act.put, List.setIfInBounds_toArray, List.set_cons_zero, List.set_cons_succ])
          refine takeL (i := 3) (d := 118) (v := ?_) rfl rfl (by kernel_rfl) (by kernel_rfl) (by kernel_rfl) (by kernel_rfl) (by kernel_rfl) (by kernel_rfl) (fun _ _ _ _ _ h => h) (by rfl) ?_ hC ?_
          rotate_left
          · intro w hSw
            (try dsimp only at hSw)
            obtain ⟨hS0, hS1, hS2⟩ := hSw
            go_simp
            try with_reducible rfl
          (try simp only [Act.put, List.setIfInBounds_toArray, List.set_cons_zero, List.set_cons_succ])
          refine takeL0 (i := 5) (d := 120) (v := ?_) rfl rfl (by kernel_rfl) (by kernel_rfl) (by kernel_rfl) (by kernel_rfl) (fun _ _ _ _ _ h => h) (by rfl) ?_ (fun _ => hC) ?_
          rotate_left
          · intro w
            go_simp
            try with_reducible rfl
          (try simp only [Act.put, List.setIfInBounds_toArray, List.set_cons_zero, List.set_cons_succ])
          refine takeL0 (i := 6) (d := 121) (v := ?_) rfl rfl (by kernel_rfl) (by kernel_rfl) (by kernel_rfl) (by kernel_rfl) (fun _ _ _ _ _ h => h) (by rfl) ?_ (fun _ => hC) ?_
          rotate_left
          · intro w
            go_simp
            try with_reducible rfl
          (try simp only [Act.put, List.setIfInBounds_toArray, List.set_cons_zero, List.set_cons_succ])
          refine takeL0 (i := 7) (d := 122) (v := ?_) rfl rfl (by kernel_rfl) (by kernel_rfl) (by kernel_rfl) (by kernel_rfl) (fun _ _ _ _ _ h => h) (by rfl) ?_ (fun _ => hC) ?_
          rotate_left
          · intro w
            go_simp
            try with_reducible rfl
          (try simp only [Act.put, List.setIfInBounds_toArray, List.set_cons_zero, List.set_cons_succ])
          refine takeL0 (i := 8) (d := 123) (v := ?_) rfl rfl (by kernel_rfl) (by kernel_rfl) (by kernel_rfl) (by kernel_rfl) (fun _ _ _ _ _ h => h) (by rfl) ?_ (fun _ => hC) ?_
          rotate_left
          · intro w
            go_simp
            try with_reducible rfl
          (try simp only [Act.put, List.setIfInBounds_toArray, List.set_cons_zero, List.set_cons_succ])
          refine takeL0 (i := 9) (d := 124) (v := ?_) rfl rfl (by kernel_rfl) (by kernel_rfl) (by kernel_rfl) (by kernel_rfl) (fun _ _ _ _ _ h => h) (by rfl) ?_ (fun _ => hC) ?_
          rotate_left
          · intro w
            go_simp
            try with_reducible rfl
          (try simp only [Act.put, List.setIfInBounds_toArray, List.set_cons_zero, List.set_cons_succ])
          refine takeL0 (i := 11) (d := 126) (v := ?_) rfl rfl (by kernel_rfl) (by kernel_rfl) (by kernel_rfl) (by kernel_rfl) (fun _ _ _ _ _ h => h) (by rfl) ?_ (fun _ => hC) ?_
          rotate_left
          · intro w
            go_simp
            try with_reducible rfl
          (try simp only [Act.put, List.setIfInBounds_toArray, List.set_cons_zero, List.set_cons_succ])
          refine takeL (i := 10) (d := 125) (v := ?_) rfl rfl (by kernel_rfl) (by kernel_rfl) (by kernel_rfl) (by kernel_rfl) (by kernel_rfl) (by kernel_rfl) (fun _ _ _ _ _ h => h) (by rfl) ?_ hC ?_
          rotate_left
          · intro w hSw
            (try dsimp only at hSw)
            obtain ⟨hS0, hS1, hS2⟩ := hSw
            go_simp
            try with_reducible rfl
          (try simp only [Act.put, List.setIfInBounds_toArray, List.set_cons_zero, List.set_cons_succ])
          refine takeL0 (i := 12) (d := 127) (v := ?_) rfl rfl (by kernel_rfl) (by kernel_rfl) (by kernel_rfl) (by kernel_rfl) (fun _ _ _ _ _ h => h) (by rfl) ?_ (fun _ => hC) ?_
          rotate_left
          · intro w
            go_simp
            try with_reducible rfl
          (try simp only [Act.put, List.setIfInBounds_toArray, List.set_cons_zero, List.set_cons_succ])
          refine takeL0 (i := 13) (d := 128) (v := ?_) rfl rfl (by kernel_rfl) (by kernel_rfl) (by kernel_rfl) (by kernel_rfl) (fun _ _ _ _ _ h => h) (by rfl) ?_ (fun _ => hC) ?_
          rotate_left
          · intro w
            go_simp
            try with_reducible rfl
          (try simp only [Act.put, List.setIfInBounds_toArray, List.set_cons_zero, List.set_cons_succ])
          refine takeL0 (i := 14) (d := 129) (v := ?_) rfl rfl (by kernel_rfl) (by kernel_rfl) (by kernel_rfl) (by kernel_rfl) (fun _ _ _ _ _ h => h) (by rfl) ?_ (fun _ => hC) ?_
          rotate_left
          · intro w
            go_simp
            try with_reducible rfl
          (try simp only [Act.put, List.setIfInBounds_toArray, List.set_cons_zero, List.set_cons_succ])
          refine takeL0 (i := 15) (d := 130) (v := ?_) rfl rfl (by kernel_rfl) (by kernel_rfl) (by kernel_rfl) (by kernel_rfl) (fun _ _ _ _ _ h => h) (by rfl) ?_ (fun _ => hC) ?_
          rotate_left
          · intro w
            go_simp
            try with_reducible rfl
          (try simp only [Act.put, List.setIfInBounds_toArray, List.set_cons_zero, List.set_cons_succ])
          refine takeL0 (i := 16) (d := 131) (v := ?_) rfl rfl (by kernel_rfl) (by kernel_rfl) (by kernel_rfl) (by kernel_rfl) (fun _ _ _ _ _ h => h) (by rfl) ?_ (fun _ => hC) ?_
          rotate_left
          · intro w
            go_simp
            try with_reducible rfl
          (try simp only [Act.put, List.setIfInBounds_toArray, List.set_cons_zero, List.set_cons_succ])
          refine takeL0 (i := 17) (d := 132) (v := ?_) rfl rfl (by kernel_rfl) (by kernel_rfl) (by kernel_rfl) (by kernel_rfl) (fun _ _ _ _ _ h => h) (by rfl) ?_ (fun _ => hC) ?_
          rotate_left
          · intro w
            go_simp
            try with_reducible rfl
          (try simp only [Act.put, List.setIfInBounds_toArray, List.set_cons_zero, List.set_cons_succ])
          refine takeL0 (i := 19) (d := 134) (v := ?_) rfl rfl (by kernel_rfl) (by kernel_rfl) (by kernel_rfl) (by kernel_rfl) (fun _ _ _ _ _ h => h) (by rfl) ?_ (fun _ => hC) ?_
          rotate_left
          · intro w
            go_simp
            try with_reducible rfl
          (try simp only [Act.put, List.setIfInBounds_toArray, List.set_cons_zero, List.set_cons_succ])
          refine takeL0 (i := 21) (d := 136) (v := ?_) rfl rfl (by kernel_rfl) (by kernel_rfl) (by kernel_rfl) (by kernel_rfl) (fun _ _ _ _ _ h => h) (by rfl) ?_ (fun _ => hC) ?_
          rotate_left
          · intro w
            go_simp
            try with_reducible rfl
          (try simp only [Act.put, List.setIfInBounds_toArray, List.set_cons_zero, List.set_cons_succ])
          refine takeL (i := 18) (d := 133) (v := ?_) rfl rfl (by kernel_rfl) (by kernel_rfl) (by kernel_rfl) (by kernel_rfl) (by kernel_rfl) (by kernel_rfl) (fun _ _ _ _ _ h => h) (by rfl) ?_ hC ?_
          rotate_left
          · intro w hSw
            (try dsimp only at hSw)
            obtain ⟨hS0, hS1, hS2⟩ := hSw
            go_simp
            try with_reducible rfl
          (try simp only [Act.put, List.setIfInBounds_toArray, List.set_cons_zero, List.set_cons_succ])
          refine takeL (i := 20) (d := 135) (v := ?_) rfl rfl (by kernel_rfl) (by kernel_rfl) (by kernel_rfl) (by kernel_rfl) (by kernel_rfl) (by kernel_rfl) (fun _ _ _ _ _ h => h) (by rfl) ?_ hC ?_
          rotate_left
          · intro w hSw
            (try dsimp only at hSw)
            obtain ⟨hS0, hS1, hS2⟩ := hSw
            go_simp
            try with_reducible rfl
          (try simp only [Act.put, List.setIfInBounds_toArray, List.set_cons_zero, List.set_cons_succ])
          refine takeL (i := 22) (d := 137) (v := ?_) rfl rfl (by kernel_rfl) (by kernel_rfl) (by kernel_rfl) (by kernel_rfl) (by kernel_rfl) (by kernel_rfl) (fun _ _ _ _ _ h => h) (by rfl) ?_ hC ?_
          rotate_left
          · intro w hSw
            (try dsimp only at hSw)
            obtain ⟨hS0, hS1, hS2⟩ := hSw
            go_simp
            try with_reducible rfl
          (try simp only [Act.put, List.setIfInBounds_toArray, List.set_cons_zero, List.set_cons_succ])
          refine takeL0 (i := 23) (d := 138) (v := ?_) rfl rfl (by kernel_rfl) (by kernel_rfl) (by kernel_rfl) (by kernel_rfl) (fun _ _ _ _ _ h => h) (by rfl) ?_ (fun _ => hC) ?_
          rotate_left
          · intro w
            go_simp
            try with_reducible rfl
          (try simp only [Act.put, List.setIfInBounds_toArray, List.set_cons_zero, List.set_cons_succ])
          refine takeL0 (i := 24) (d := 139) (v := ?_) rfl rfl (by kernel_rfl) (by kernel_rfl) (by kernel_rfl) (by kernel_rfl) (fun _ _ _ _ _ h => h) (by rfl) ?_ (fun _ => hC) ?_
          rotate_left
          · intro w
            go_simp
            try with_reducible rfl
          (try simp only [Act.put, List.setIfInBounds_toArray, List.set_cons_zero, List.set_cons_succ])
          refine takeL0 (i := 25) (d := 140) (v := ?_) rfl rfl (by kernel_rfl) (by kernel_rfl) (by kernel_rfl) (by kernel_rfl) (fun _ _ _ _ _ h => h) (by rfl) ?_ (fun _ => hC) ?_
          rotate_left
          · intro w
            go_simp
            try with_reducible rfl
          (try simp only [Act.put, List.setIfInBounds_toArray, List.set_cons_zero, List.set_cons_succ])
          refine anyL_done (by kernel_rfl) ?_ _
          refine NoPanic.normal ?_
          clear hC hT q1 q2 q3
          obtain ⟨k0, k1, k2, k3⟩ := four_at (HD.out.pw.at 0 rfl)
          go_upto_region 24 with (fail)
          clear k0 k1 k2 k3
          obtain ⟨x8, y8, e8, _, _, hc8⟩ := HD.out.after.open
          rw [HAL.out] at hc8
          obtain ⟨b10, o10, e12, hb10, m10⟩ := hc8 h hlt
          have e13 : aa = x8 := by injection e8
          subst e13
          subst e12
          obtain ⟨af, haf⟩ : ∃ af, nth (afterC C) h = af := ⟨_, rfl⟩
          rw [haf] at m10
          have HAF := Lib.hid haf
          clear hc8 e8 hb10 haf
          have ht := (IntBlk.of_owns (HD.out.pw.at 2 rfl) HTN.out (fun _ _ => rfl)).cell hlt
          obtain ⟨tr, htr⟩ : ∃ tr, nth traps h = tr := ⟨_, rfl⟩
          rw [htr] at ht
          have HTR := Lib.hid htr
          clear htr
          by_cases hN0 : N.length = 0
          · have hN1 : decide ((0 : Int) < N.length) = false := decide_eq_false (by omega)
            have hC : Cell1 b10 (o10 + h) (.int .i64 af) wr.drew.drew := ⟨m10, trivial⟩
            refine wp_region_noPanic ?_
            refine anyL_start (S := Till [] (Cell1 b10 (o10 + h) (.int .i64 af))) (by kernel_rfl) (fun _ => hC) (fun hT => ?_)
            refine takeL0 (i := 0) (d := 144) (v := ?_) rfl rfl (by kernel_rfl) (by kernel_rfl) (by kernel_rfl) (by kernel_rfl) (fun _ _ _ _ _ h => h) (by rfl) ?_ (fun _ => hC) ?_
            rotate_left
            · intro w
              go_simp
              try with_reducible rfl
            (try simp only [Act.put, List.setIfInBounds_toArray, List.set_cons_zero, List.set_cons_succ])
            refine takeL0 (i := 1) (d := 145) (v := ?_) rfl rfl (by kernel_rfl) (by kernel_rfl) (by kernel_rfl) (by kernel_rfl) (fun _ _ _ _ _ h => h) (by rfl) ?_ (fun _ => hC) ?_
            rotate_left
            · intro w
              go_simp
              try with_reducible rfl
            (try simp only [Act.put, List.setIfInBounds_toArray, List.set_cons_zero, List.set_cons_succ])
            refine takeL0 (i := 2) (d := 146) (v := ?_) rfl rfl (by kernel_rfl) (by kernel_rfl) (by kernel_rfl) (by kernel_rfl) (fun _ _ _ _ _ h => h) (by rfl) ?_ (fun _ => hC) ?_
            rotate_left
            · intro w
              go_simp
              try with_reducible rfl
            (try simp only [Act.put, List.setIfInBounds_toArray, List.set_cons_zero, List.set_cons_succ])
            refine skipL (i := 3) (d := 147) rfl rfl (by kernel_rfl) (by kernel_rfl) (by kernel_rfl) (by kernel_rfl) (fun _ _ _ _ _ h => h) (by rfl) (fun _ => hC) ?_
            (try simp only [Act.put, List.setIfInBounds_toArray, List.set_cons_zero, List.set_cons_succ])
            refine skipL (i := 4) (d := 148) rfl rfl (by kernel_rfl) (by kernel_rfl) (by kernel_rfl) (by kernel_rfl) (fun _ _ _ _ _ h => h) (by rfl) (fun _ => hC) ?_
            (try simp only [Act.put, List.setIfInBounds_toArray, List.set_cons_zero, List.set_cons_succ])
            refine skipL (i := 5) (d := 149) rfl rfl (by kernel_rfl) (by kernel_rfl) (by kernel_rfl) (by kernel_rfl) (fun _ _ _ _ _ h => h) (by rfl) (fun _ => hC) ?_
            (try simp only [Act.put, List.setIfInBounds_toArray, List.set_cons_zero, List.set_cons_succ])
            refine skipL (i := 6) (d := 150) rfl rfl (by kernel_rfl) (by kernel_rfl) (by kernel_rfl) (by kernel_rfl) (fun _ _ _ _ _ h => h) (by rfl) (fun _ => hC) ?_
            (try simp only [Act.put, List.setIfInBounds_toArray, List.set_cons_zero, List.set_cons_succ])
            refine skipL (i := 7) (d := 151) rfl rfl (by kernel_rfl) (by kernel_rfl) (by kernel_rfl) (by kernel_rfl) (fun _ _ _ _ _ h => h) (by rfl) (fun _ => hC) ?_
            (try simp only [Act.put, List.setIfInBounds_toArray, List.set_cons_zero, List.set_cons_succ])
            refine skipL (i := 8) (d := 152) rfl rfl (by kernel_rfl) (by kernel_rfl) (by kernel_rfl) (by kernel_rfl) (fun _ _ _ _ _ h => h) (by rfl) (fun _ => hC) ?_
            (try simp only [Act.put, List.setIfInBounds_toArray, List.set_cons_zero, List.set_cons_succ])
            refine skipL (i := 9) (d := 153) rfl rfl (by kernel_rfl) (by kernel_rfl) (by kernel_rfl) (by kernel_rfl) (fun _ _ _ _ _ h => h) (by rfl) (fun _ => hC) ?_
            (try simp only [Act.put, List.setIfInBounds_toArray, List.set_cons_zero, List.set_cons_succ])
            refine skipL (i := 10) (d := 154) rfl rfl (by kernel_rfl) (by kernel_rfl) (by kernel_rfl) (by kernel_rfl) (fun _ _ _ _ _ h => h) (by rfl) (fun _ => hC) ?_
            (try simp only [Act.put, List.setIfInBounds_toArray, List.set_cons_zero, List.set_cons_succ])
            refine skipL (i := 11) (d := 155) rfl rfl (by kernel_rfl) (by kernel_rfl) (by kernel_rfl) (by kernel_rfl) (fun _ _ _ _ _ h => h) (by rfl) (fun _ => hC) ?_
            (try simp only [Act.put, List.setIfInBounds_toArray, List.set_cons_zero, List.set_cons_succ])
            refine skipL (i := 12) (d := 156) rfl rfl (by kernel_rfl) (by kernel_rfl) (by kernel_rfl) (by kernel_rfl) (fun _ _ _ _ _ h => h) (by rfl) (fun _ => hC) ?_
            (try simp only [Act.put, List.setIfInBounds_toArray, List.set_cons_zero, List.set_cons_succ])
            refine skipL (i := 13) (d := 157) rfl rfl (by kernel_rfl) (by kernel_rfl) (by kernel_rfl) (by kernel_rfl) (fun _ _ _ _ _ h => h) (by rfl) (fun _ => hC) ?_
            (try simp only [Act.put, List.setIfInBounds_toArray, List.set_cons_zero, List.set_cons_succ])
            refine skipL (i := 14) (d := 158) rfl rfl (by kernel_rfl) (by kernel_rfl) (by kernel_rfl) (by kernel_rfl) (fun _ _ _ _ _ h => h) (by rfl) (fun _ => hC) ?_
            (try simp only [Act.put, List.setIfInBounds_toArray, List.set_cons_zero, List.set_cons_succ])
            refine skipL (i := 15) (d := 159) rfl rfl (by kernel_rfl) (by kernel_rfl) (by kernel_rfl) (by kernel_rfl) (fun _ _ _ _ _ h => h) (by rfl) (fun _ => hC) ?_
            (try simp only [Act.put, List.setIfInBounds_toArray, List.set_cons_zero, List.set_cons_succ])
            refine skipL (i := 16) (d := 160) rfl rfl (by kernel_rfl) (by kernel_rfl) (by kernel_rfl) (by kernel_rfl) (fun _ _ _ _ _ h => h) (by rfl) (fun _ => hC) ?_
            (try simp only [Act.put, List.setIfInBounds_toArray, List.set_cons_zero, List.set_cons_succ])
            refine skipL (i := 17) (d := 161) rfl rfl (by kernel_rfl) (by kernel_rfl) (by kernel_rfl) (by kernel_rfl) (fun _ _ _ _ _ h => h) (by rfl) (fun _ => hC) ?_
            (try simp only [Act.put, List.setIfInBounds_toArray, List.set_cons_zero, List.set_cons_succ])
            refine takeL0 (i := 18) (d := 162) (v := ?_) rfl rfl (by kernel_rfl) (by kernel_rfl) (by kernel_rfl) (by kernel_rfl) (fun _ _ _ _ _ h => h) (by rfl) ?_ (fun _ => hC) ?_
            rotate_left
            · intro w
              go_simp
              try with_reducible rfl
            (try simp only [Act.put, List.setIfInBounds_toArray, List.set_cons_zero, List.set_cons_succ])
            refine takeL0 (i := 19) (d := 163) (v := ?_) rfl rfl (by kernel_rfl) (by kernel_rfl) (by kernel_rfl) (by kernel_rfl) (fun _ _ _ _ _ h => h) (by rfl) ?_ (fun _ => hC) ?_
            rotate_left
            · intro w
              go_simp
              try with_reducible rfl
            (try simp only [Act.put, List.setIfInBounds_toArray, List.set_cons_zero, List.set_cons_succ])
            refine skipL (i := 20) (d := 164) rfl rfl (by kernel_rfl) (by kernel_rfl) (by kernel_rfl) (by kernel_rfl) (fun _ _ _ _ _ h => h) (by rfl) (fun _ => hC) ?_
            (try simp only [Act.put, List.setIfInBounds_toArray, List.set_cons_zero, List.set_cons_succ])
            refine skipL (i := 21) (d := 165) rfl rfl (by kernel_rfl) (by kernel_rfl) (by kernel_rfl) (by kernel_rfl) (fun _ _ _ _ _ h => h) (by rfl) (fun _ => hC) ?_
            (try simp only [Act.put, List.setIfInBounds_toArray, List.set_cons_zero, List.set_cons_succ])
            refine skipL (i := 22) (d := 166) rfl rfl (by kernel_rfl) (by kernel_rfl) (by kernel_rfl) (by kernel_rfl) (fun _ _ _ _ _ h => h) (by rfl) (fun _ => hC) ?_
            (try simp only [Act.put, List.setIfInBounds_toArray, List.set_cons_zero, List.set_cons_succ])
            refine skipL (i := 23) (d := 167) rfl rfl (by kernel_rfl) (by kernel_rfl) (by kernel_rfl) (by kernel_rfl) (fun _ _ _ _ _ h => h) (by rfl) (fun _ => hC) ?_
            (try simp only [Act.put, List.setIfInBounds_toArray, List.set_cons_zero, List.set_cons_succ])
            refine skipL (i := 24) (d := 168) rfl rfl (by kernel_rfl) (by kernel_rfl) (by kernel_rfl) (by kernel_rfl) (fun _ _ _ _ _ h => h) (by rfl) (fun _ => hC) ?_
            (try simp only [Act.put, List.setIfInBounds_toArray, List.set_cons_zero, List.set_cons_succ])
            refine takeL0 (i := 25) (d := 169) (v := ?_) rfl rfl (by kernel_rfl) (by kernel_rfl) (by kernel_rfl) (by kernel_rfl) (fun _ _ _ _ _ h => h) (by rfl) ?_ (fun _ => hC) ?_
            rotate_left
            · intro w
              go_simp
              try with_reducible rfl
            (try simp only [Act.put, List.setIfInBounds_toArray, List.set_cons_zero, List.set_cons_succ])
            refine anyL_done (by kernel_rfl) ?_ _
            refine NoPanic.normal ?_
            clear hC hT hN1 m10 ht
            go_wp2_with fail
            go_roundw
            case rel => exact ⟨h + 1, by omega, by go_num, HD.out.drew⟩
            case measure => simp [intOf]; omega
          · obtain ⟨m, hm⟩ : ∃ m, N.length = m + 1 := ⟨N.length - 1, by omega⟩
            have hmN : m < N.length := by omega
            obtain ⟨bn, cn, e9, hcn, mN, hBN⟩ := rows_at' (HD.out.pw.at 4 rfl) hmN
            subst e9
            have mr := hBN.cell hlt
            obtain ⟨nt, hnt⟩ : ∃ nt, nth (nthR N m) h = nt := ⟨_, rfl⟩
            rw [hnt] at mr
            have hN1 : ¬ N = [] := fun e => hN0 (by rw [e]; rfl)
            have hN2 : 0 < N.length := by omega
            have hwm : IntKind.i64.wrap ((N.length : Int) - 1) = (m : Int) := by rw [IntKind.wrap_i64]; omega
            have hmi : (m : Int) < N.length := by omega
            have hC : Box6x b5 bn m (nbN m) h gt b10 (o10 + h) (.slice (some ⟨bn, 0, none⟩) N.length qn) (.slice (some ⟨nbN m, 0, none⟩) rooms.length cn) (.slice (some ⟨gt, 0, none⟩) rooms.length qt) nt tr af wr.drew.drew :=
              ⟨(four_at (HD.out.pw.at 0 rfl)).2.2.2, mN, mr, (four_at (HD.out.pw.at 0 rfl)).2.1, ht, m10⟩
            by_cases hop : nt < tr
            · have ha0 : af = 0 := by
                rw [← HAF.out]
                refine after_open HFE.out (by rw [HRL.out]; exact hlt) (by rw [HNL.out]; omega) ?_
                rw [HNL.out, HTL.out, HTR.out, show N.length - 1 = m by omega, hnt]; exact hop
              subst ha0
              have q1 : decide (nt < tr) = true := decide_eq_true hop
              clear hm hmN mN hBN mr hnt ht m10 hN0
              refine wp_region_noPanic ?_
              refine anyL_start (S := Till [] (Box6x b5 bn m (nbN m) h gt b10 (o10 + h) (.slice (some ⟨bn, 0, none⟩) N.length qn) (.slice (some ⟨nbN m, 0, none⟩) rooms.length cn) (.slice (some ⟨gt, 0, none⟩) rooms.length qt) nt tr 0)) (by kernel_rfl) (fun _ => hC) (fun hT => ?_)
              refine takeL0 (i := 0) (d := 144) (v := ?_) rfl rfl (by kernel_rfl) (by kernel_rfl) (by kernel_rfl) (by kernel_rfl) (fun _ _ _ _ _ h => h) (by rfl) ?_ (fun _ => hC) ?_
              rotate_left
              · intro w
                go_simp
                try with_reducible rfl
              (try simp only [Act.put, List.setIfInBounds_toArray, List.set_cons_zero, List.set_cons_succ])
              refine takeL0 (i := 1) (d := 145) (v := ?_) rfl rfl (by kernel_rfl) (by kernel_rfl) (by kernel_rfl) (by kernel_rfl) (fun _ _ _ _ _ h => h) (by rfl) ?_ (fun _ => hC) ?_
              rotate_left
              · intro w
                go_simp
                try with_reducible rfl
              (try simp only [Act.put, List.setIfInBounds_toArray, List.set_cons_zero, List.set_cons_succ])
              refine takeL0 (i := 2) (d := 146) (v := ?_) rfl rfl (by kernel_rfl) (by kernel_rfl) (by kernel_rfl) (by kernel_rfl) (fun _ _ _ _ _ h => h) (by rfl) ?_ (fun _ => hC) ?_
              rotate_left
              · intro w
                go_simp
                try with_reducible rfl
              (try simp only [Act.put, List.setIfInBounds_toArray, List.set_cons_zero, List.set_cons_succ])
              refine takeL0 (i := 3) (d := 147) (v := ?_) rfl rfl (by kernel_rfl) (by kernel_rfl) (by kernel_rfl) (by kernel_rfl) (fun _ _ _ _ _ h => h) (by rfl) ?_ (fun _ => hC) ?_
              rotate_left
              · intro w
                go_simp
                try with_reducible rfl
              (try simp only [Act.put, List.setIfInBounds_toArray, List.set_cons_zero, List.set_cons_succ])
              refine takeL0 (i := 5) (d := 149) (v := ?_) rfl rfl (by kernel_rfl) (by kernel_rfl) (by kernel_rfl) (by kernel_rfl) (fun _ _ _ _ _ h => h) (by rfl) ?_ (fun _ => hC) ?_
              rotate_left
              · intro w
                go_simp
                try with_reducible rfl
              (try simp only [Act.put, List.setIfInBounds_toArray, List.set_cons_zero, List.set_cons_succ])
              refine takeL0 (i := 6) (d := 150) (v := ?_) rfl rfl (by kernel_rfl) (by kernel_rfl) (by kernel_rfl) (by kernel_rfl) (fun _ _ _ _ _ h => h) (by rfl) ?_ (fun _ => hC) ?_
              rotate_left
              · intro w
                go_simp
                try with_reducible rfl
              (try simp only [Act.put, List.setIfInBounds_toArray, List.set_cons_zero, List.set_cons_succ])
              refine takeL0 (i := 9) (d := 153) (v := ?_) rfl rfl (by kernel_rfl) (by kernel_rfl) (by kernel_rfl) (by kernel_rfl) (fun _ _ _ _ _ h => h) (by rfl) ?_ (fun _ => hC) ?_
              rotate_left
              · intro w
                go_simp
                try with_reducible rfl
              (try simp only [Act.put, List.setIfInBounds_toArray, List.set_cons_zero, List.set_cons_succ])
              refine takeL0 (i := 12) (d := 156) (v := ?_) rfl rfl (by kernel_rfl) (by kernel_rfl) (by kernel_rfl) (by kernel_rfl) (fun _ _ _ _ _ h => h) (by rfl) ?_ (fun _ => hC) ?_
              rotate_left
              · intro w
                go_simp
                try with_reducible rfl
              (try simp only [Act.put, List.setIfInBounds_toArray, List.set_cons_zero, List.set_cons_succ])
              refine takeL0 (i := 14) (d := 158) (v := ?_) rfl rfl (by kernel_rfl) (by kernel_rfl) (by kernel_rfl) (by kernel_rfl) (fun _ _ _ _ _ h => h) (by rfl) ?_ (fun _ => hC) ?_
              rotate_left
              · intro w
                go_simp
                try with_reducible rfl
              (try simp only [Act.put, List.setIfInBounds_toArray, List.set_cons_zero, List.set_cons_succ])
              refine takeL (i := 4) (d := 148) (v := ?_) rfl rfl (by kernel_rfl) (by kernel_rfl) (by kernel_rfl) (by kernel_rfl) (by kernel_rfl) (by kernel_rfl) (fun _ _ _ _ _ h => h) (by rfl) ?_ hC ?_
              rotate_left
              · intro w hSw
                (try dsimp only at hSw)
                obtain ⟨hS0, hS1, hS2, hS3, hS4, hS5⟩ := hSw
                go_simp
                try with_reducible rfl
              (try simp only [Act.put, List.setIfInBounds_toArray, List.set_cons_zero, List.set_cons_succ])
              refine takeL0 (i := 7) (d := 151) (v := ?_) rfl rfl (by kernel_rfl) (by kernel_rfl) (by kernel_rfl) (by kernel_rfl) (fun _ _ _ _ _ h => h) (by rfl) ?_ (fun _ => hC) ?_
              rotate_left
              · intro w
                go_simp
                try with_reducible rfl
              (try simp only [Act.put, List.setIfInBounds_toArray, List.set_cons_zero, List.set_cons_succ])
              refine takeL (i := 8) (d := 152) (v := ?_) rfl rfl (by kernel_rfl) (by kernel_rfl) (by kernel_rfl) (by kernel_rfl) (by kernel_rfl) (by kernel_rfl) (fun _ _ _ _ _ h => h) (by rfl) ?_ hC ?_
              rotate_left
              · intro w hSw
                (try dsimp only at hSw)
                obtain ⟨hS0, hS1, hS2, hS3, hS4, hS5⟩ := hSw
                go_simp
                try with_reducible rfl
              (try simp only [Act.put, List.setIfInBounds_toArray, List.set_cons_zero, List.set_cons_succ])
              refine takeL0 (i := 10) (d := 154) (v := ?_) rfl rfl (by kernel_rfl) (by kernel_rfl) (by kernel_rfl) (by kernel_rfl) (fun _ _ _ _ _ h => h) (by rfl) ?_ (fun _ => hC) ?_
              rotate_left
              · intro w
                go_simp
                try with_reducible rfl
              (try simp only [Act.put, List.setIfInBounds_toArray, List.set_cons_zero, List.set_cons_succ])
              refine takeL (i := 11) (d := 155) (v := ?_) rfl rfl (by kernel_rfl) (by kernel_rfl) (by kernel_rfl) (by kernel_rfl) (by kernel_rfl) (by kernel_rfl) (fun _ _ _ _ _ h => h) (by rfl) ?_ hC ?_
              rotate_left
              · intro w hSw
                (try dsimp only at hSw)
                obtain ⟨hS0, hS1, hS2, hS3, hS4, hS5⟩ := hSw
                go_simp
                try with_reducible rfl
              (try simp only [Act.put, List.setIfInBounds_toArray, List.set_cons_zero, List.set_cons_succ])
              refine takeL (i := 13) (d := 157) (v := ?_) rfl rfl (by kernel_rfl) (by kernel_rfl) (by kernel_rfl) (by kernel_rfl) (by kernel_rfl) (by kernel_rfl) (fun _ _ _ _ _ h => h) (by rfl) ?_ hC ?_
              rotate_left
              · intro w hSw
                (try dsimp only at hSw)
                obtain ⟨hS0, hS1, hS2, hS3, hS4, hS5⟩ := hSw
                go_simp
                try with_reducible rfl
              (try simp only [Act.put, List.setIfInBounds_toArray, List.set_cons_zero, List.set_cons_succ])
              refine takeL0 (i := 15) (d := 159) (v := ?_) rfl rfl (by kernel_rfl) (by kernel_rfl) (by kernel_rfl) (by kernel_rfl) (fun _ _ _ _ _ h => h) (by rfl) ?_ (fun _ => hC) ?_
              rotate_left
              · intro w
                go_simp
                try with_reducible rfl
              (try simp only [Act.put, List.setIfInBounds_toArray, List.set_cons_zero, List.set_cons_succ])
              refine takeL (i := 16) (d := 160) (v := ?_) rfl rfl (by kernel_rfl) (by kernel_rfl) (by kernel_rfl) (by kernel_rfl) (by kernel_rfl) (by kernel_rfl) (fun _ _ _ _ _ h => h) (by rfl) ?_ hC ?_
              rotate_left
              · intro w hSw
                (try dsimp only at hSw)
                obtain ⟨hS0, hS1, hS2, hS3, hS4, hS5⟩ := hSw
                go_simp
                try with_reducible rfl
              (try simp only [Act.put, List.setIfInBounds_toArray, List.set_cons_zero, List.set_cons_succ])
              refine takeL0 (i := 17) (d := 161) (v := ?_) rfl rfl (by kernel_rfl) (by kernel_rfl) (by kernel_rfl) (by kernel_rfl) (fun _ _ _ _ _ h => h) (by rfl) ?_ (fun _ => hC) ?_
              rotate_left
              · intro w
                go_simp
                try with_reducible rfl
              (try simp only [Act.put, List.setIfInBounds_toArray, List.set_cons_zero, List.set_cons_succ])
              refine takeL0 (i := 18) (d := 162) (v := ?_) rfl rfl (by kernel_rfl) (by kernel_rfl) (by kernel_rfl) (by kernel_rfl) (fun _ _ _ _ _ h => h) (by rfl) ?_ (fun _ => hC) ?_
              rotate_left
              · intro w
                go_simp
                try with_reducible rfl
              (try simp only [Act.put, List.setIfInBounds_toArray, List.set_cons_zero, List.set_cons_succ])
              refine takeL0 (i := 19) (d := 163) (v := ?_) rfl rfl (by kernel_rfl) (by kernel_rfl) (by kernel_rfl) (by kernel_rfl) (fun _ _ _ _ _ h => h) (by rfl) ?_ (fun _ => hC) ?_
              rotate_left
              · intro w
                go_simp
                try with_reducible rfl
              (try simp only [Act.put, List.setIfInBounds_toArray, List.set_cons_zero, List.set_cons_succ])
              refine takeL0 (i := 20) (d := 164) (v := ?_) rfl rfl (by kernel_rfl) (by kernel_rfl) (by kernel_rfl) (by kernel_rfl) (fun _ _ _ _ _ h => h) (by rfl) ?_ (fun _ => hC) ?_
              rotate_left
              · intro w
                go_simp
                try with_reducible rfl
              (try simp only [Act.put, List.setIfInBounds_toArray, List.set_cons_zero, List.set_cons_succ])
              refine takeL0 (i := 21) (d := 165) (v := ?_) rfl rfl (by kernel_rfl) (by kernel_rfl) (by kernel_rfl) (by kernel_rfl) (fun _ _ _ _ _ h => h) (by rfl) ?_ (fun _ => hC) ?_
              rotate_left
              · intro w
                go_simp
                try with_reducible rfl
              (try simp only [Act.put, List.setIfInBounds_toArray, List.set_cons_zero, List.set_cons_succ])
              refine takeL0 (i := 22) (d := 166) (v := ?_) rfl rfl (by kernel_rfl) (by kernel_rfl) (by kernel_rfl) (by kernel_rfl) (fun _ _ _ _ _ h => h) (by rfl) ?_ (fun _ => hC) ?_
              rotate_left
              · intro w
                go_simp
                try with_reducible rfl
              (try simp only [Act.put, List.setIfInBounds_toArray, List.set_cons_zero, List.set_cons_succ])
              refine takeL (i := 23) (d := 167) (v := ?_) rfl rfl (by kernel_rfl) (by kernel_rfl) (by kernel_rfl) (by kernel_rfl) (by kernel_rfl) (by kernel_rfl) (fun _ _ _ _ _ h => h) (by rfl) ?_ hC ?_
              rotate_left
              · intro w hSw
                (try dsimp only at hSw)
                obtain ⟨hS0, hS1, hS2, hS3, hS4, hS5⟩ := hSw
                go_simp
                try with_reducible rfl
              (try simp only [Act.put, List.setIfInBounds_toArray, List.set_cons_zero, List.set_cons_succ])
              refine takeL0 (i := 24) (d := 168) (v := ?_) rfl rfl (by kernel_rfl) (by kernel_rfl) (by kernel_rfl) (by kernel_rfl) (fun _ _ _ _ _ h => h) (by rfl) ?_ (fun _ => hC) ?_
              rotate_left
              · intro w
                go_simp
                try with_reducible rfl
              (try simp only [Act.put, List.setIfInBounds_toArray, List.set_cons_zero, List.set_cons_succ])
              refine takeL0 (i := 25) (d := 169) (v := ?_) rfl rfl (by kernel_rfl) (by kernel_rfl) (by kernel_rfl) (by kernel_rfl) (fun _ _ _ _ _ h => h) (by rfl) ?_ (fun _ => hC) ?_
              rotate_left
              · intro w
                go_simp
                try with_reducible rfl
              (try simp only [Act.put, List.setIfInBounds_toArray, List.set_cons_zero, List.set_cons_succ])
              refine anyL_done (by kernel_rfl) ?_ _
              refine NoPanic.normal ?_
              clear hC hT hN1 hN2 q1
              go_wp2_with fail
              go_roundw
              case rel => exact ⟨h + 1, by omega, by go_num, HD.out.drew⟩
              case measure => simp [intOf]; omega
            · have q1 : decide (nt < tr) = false := decide_eq_false hop
              clear hm hmN mN hBN mr hnt ht m10 hN0
              refine wp_region_noPanic ?_
              refine anyL_start (S := Till [] (Box6x b5 bn m (nbN m) h gt b10 (o10 + h) (.slice (some ⟨bn, 0, none⟩) N.length qn) (.slice (some ⟨nbN m, 0, none⟩) rooms.length cn) (.slice (some ⟨gt, 0, none⟩) rooms.length qt) nt tr af)) (by kernel_rfl) (fun _ => hC) (fun hT => ?_)
              refine takeL0 (i := 0) (d := 144) (v := ?_) rfl rfl (by kernel_rfl) (by kernel_rfl) (by kernel_rfl) (by kernel_rfl) (fun _ _ _ _ _ h => h) (by rfl) ?_ (fun _ => hC) ?_
              rotate_left
              · intro w
                go_simp
                try with_reducible rfl
              (try simp only [Act.put, List.setIfInBounds_toArray, List.set_cons_zero, List.set_cons_succ])
              refine takeL0 (i := 1) (d := 145) (v := ?_) rfl rfl (by kernel_rfl) (by kernel_rfl) (by kernel_rfl) (by kernel_rfl) (fun _ _ _ _ _ h => h) (by rfl) ?_ (fun _ => hC) ?_
              rotate_left
              · intro w
                go_simp
                try with_reducible rfl
              (try simp only [Act.put, List.setIfInBounds_toArray, List.set_cons_zero, List.set_cons_succ])
              refine takeL0 (i := 2) (d := 146) (v := ?_) rfl rfl (by kernel_rfl) (by kernel_rfl) (by kernel_rfl) (by kernel_rfl) (fun _ _ _ _ _ h => h) (by rfl) ?_ (fun _ => hC) ?_
              rotate_left
              · intro w
                go_simp
                try with_reducible rfl
              (try simp only [Act.put, List.setIfInBounds_toArray, List.set_cons_zero, List.set_cons_succ])
              refine takeL0 (i := 3) (d := 147) (v := ?_) rfl rfl (by kernel_rfl) (by kernel_rfl) (by kernel_rfl) (by kernel_rfl) (fun _ _ _ _ _ h => h) (by rfl) ?_ (fun _ => hC) ?_
              rotate_left
              · intro w
                go_simp
                try with_reducible rfl
              (try simp only [Act.put, List.setIfInBounds_toArray, List.set_cons_zero, List.set_cons_succ])
              refine takeL0 (i := 5) (d := 149) (v := ?_) rfl rfl (by kernel_rfl) (by kernel_rfl) (by kernel_rfl) (by kernel_rfl) (fun _ _ _ _ _ h => h) (by rfl) ?_ (fun _ => hC) ?_
              rotate_left
              · intro w
                go_simp
                try with_reducible rfl
              (try simp only [Act.put, List.setIfInBounds_toArray, List.set_cons_zero, List.set_cons_succ])
              refine takeL0 (i := 6) (d := 150) (v := ?_) rfl rfl (by kernel_rfl) (by kernel_rfl) (by kernel_rfl) (by kernel_rfl) (fun _ _ _ _ _ h => h) (by rfl) ?_ (fun _ => hC) ?_
              rotate_left
              · intro w
                go_simp
                try with_reducible rfl
              (try simp only [Act.put, List.setIfInBounds_toArray, List.set_cons_zero, List.set_cons_succ])
              refine takeL0 (i := 9) (d := 153) (v := ?_) rfl rfl (by kernel_rfl) (by kernel_rfl) (by kernel_rfl) (by kernel_rfl) (fun _ _ _ _ _ h => h) (by rfl) ?_ (fun _ => hC) ?_
              rotate_left
              · intro w
                go_simp
                try with_reducible rfl
              (try simp only [Act.put, List.setIfInBounds_toArray, List.set_cons_zero, List.set_cons_succ])
              refine takeL0 (i := 12) (d := 156) (v := ?_) rfl rfl (by kernel_rfl) (by kernel_rfl) (by kernel_rfl) (by kernel_rfl) (fun _ _ _ _ _ h => h) (by rfl) ?_ (fun _ => hC) ?_
              rotate_left
              · intro w
                go_simp
                try with_reducible rfl
              (try simp only [Act.put, List.setIfInBounds_toArray, List.set_cons_zero, List.set_cons_succ])
              refine takeL0 (i := 14) (d := 158) (v := ?_) rfl rfl (by kernel_rfl) (by kernel_rfl) (by kernel_rfl) (by kernel_rfl) (fun _ _ _ _ _ h => h) (by rfl) ?_ (fun _ => hC) ?_
              rotate_left
              · intro w
                go_simp
                try with_reducible rfl
              (try simp only [Act.put, List.setIfInBounds_toArray, List.set_cons_zero, List.set_cons_succ])
              refine takeL (i := 4) (d := 148) (v := ?_) rfl rfl (by kernel_rfl) (by kernel_rfl) (by kernel_rfl) (by kernel_rfl) (by kernel_rfl) (by kernel_rfl) (fun _ _ _ _ _ h => h) (by rfl) ?_ hC ?_
              rotate_left
              · intro w hSw
                (try dsimp only at hSw)
                obtain ⟨hS0, hS1, hS2, hS3, hS4, hS5⟩ := hSw
                go_simp
                try with_reducible rfl
              (try simp only [Act.put, List.setIfInBounds_toArray, List.set_cons_zero, List.set_cons_succ])
              refine takeL0 (i := 7) (d := 151) (v := ?_) rfl rfl (by kernel_rfl) (by kernel_rfl) (by kernel_rfl) (by kernel_rfl) (fun _ _ _ _ _ h => h) (by rfl) ?_ (fun _ => hC) ?_
              rotate_left
              · intro w
                go_simp
                try with_reducible rfl
              (try simp only [Act.put, List.setIfInBounds_toArray, List.set_cons_zero, List.set_cons_succ])
              refine takeL (i := 8) (d := 152) (v := ?_) rfl rfl (by kernel_rfl) (by kernel_rfl) (by kernel_rfl) (by kernel_rfl) (by kernel_rfl) (by kernel_rfl) (fun _ _ _ _ _ h => h) (by rfl) ?_ hC ?_
              rotate_left
              · intro w hSw
                (try dsimp only at hSw)
                obtain ⟨hS0, hS1, hS2, hS3, hS4, hS5⟩ := hSw
                go_simp
                try with_reducible rfl
              (try simp only [Act.put, List.setIfInBounds_toArray, List.set_cons_zero, List.set_cons_succ])
              refine takeL0 (i := 10) (d := 154) (v := ?_) rfl rfl (by kernel_rfl) (by kernel_rfl) (by kernel_rfl) (by kernel_rfl) (fun _ _ _ _ _ h => h) (by rfl) ?_ (fun _ => hC) ?_
              rotate_left
              · intro w
                go_simp
                try with_reducible rfl
              (try simp only [Act.put, List.setIfInBounds_toArray, List.set_cons_zero, List.set_cons_succ])
              refine takeL (i := 11) (d := 155) (v := ?_) rfl rfl (by kernel_rfl) (by kernel_rfl) (by kernel_rfl) (by kernel_rfl) (by kernel_rfl) (by kernel_rfl) (fun _ _ _ _ _ h => h) (by rfl) ?_ hC ?_
              rotate_left
              · intro w hSw
                (try dsimp only at hSw)
                obtain ⟨hS0, hS1, hS2, hS3, hS4, hS5⟩ := hSw
                go_simp
                try with_reducible rfl
              (try simp only [Act.put, List.setIfInBounds_toArray, List.set_cons_zero, List.set_cons_succ])
              refine takeL (i := 13) (d := 157) (v := ?_) rfl rfl (by kernel_rfl) (by kernel_rfl) (by kernel_rfl) (by kernel_rfl) (by kernel_rfl) (by kernel_rfl) (fun _ _ _ _ _ h => h) (by rfl) ?_ hC ?_
              rotate_left
              · intro w hSw
                (try dsimp only at hSw)
                obtain ⟨hS0, hS1, hS2, hS3, hS4, hS5⟩ := hSw
                go_simp
                try with_reducible rfl
              (try simp only [Act.put, List.setIfInBounds_toArray, List.set_cons_zero, List.set_cons_succ])
              refine takeL0 (i := 15) (d := 159) (v := ?_) rfl rfl (by kernel_rfl) (by kernel_rfl) (by kernel_rfl) (by kernel_rfl) (fun _ _ _ _ _ h => h) (by rfl) ?_ (fun _ => hC) ?_
              rotate_left
              · intro w
                go_simp
                try with_reducible rfl
              (try simp only [Act.put, List.setIfInBounds_toArray, List.set_cons_zero, List.set_cons_succ])
              refine takeL (i := 16) (d := 160) (v := ?_) rfl rfl (by kernel_rfl) (by kernel_rfl) (by kernel_rfl) (by kernel_rfl) (by kernel_rfl) (by kernel_rfl) (fun _ _ _ _ _ h => h) (by rfl) ?_ hC ?_
              rotate_left
              · intro w hSw
                (try dsimp only at hSw)
                obtain ⟨hS0, hS1, hS2, hS3, hS4, hS5⟩ := hSw
                go_simp
                try with_reducible rfl
              (try simp only [Act.put, List.setIfInBounds_toArray, List.set_cons_zero, List.set_cons_succ])
              refine takeL0 (i := 17) (d := 161) (v := ?_) rfl rfl (by kernel_rfl) (by kernel_rfl) (by kernel_rfl) (by kernel_rfl) (fun _ _ _ _ _ h => h) (by rfl) ?_ (fun _ => hC) ?_
              rotate_left
              · intro w
                go_simp
                try with_reducible rfl
              (try simp only [Act.put, List.setIfInBounds_toArray, List.set_cons_zero, List.set_cons_succ])
              refine takeL0 (i := 18) (d := 162) (v := ?_) rfl rfl (by kernel_rfl) (by kernel_rfl) (by kernel_rfl) (by kernel_rfl) (fun _ _ _ _ _ h => h) (by rfl) ?_ (fun _ => hC) ?_
              rotate_left
              · intro w
                go_simp
                try with_reducible rfl
              (try simp only [Act.put, List.setIfInBounds_toArray, List.set_cons_zero, List.set_cons_succ])
              refine takeL0 (i := 19) (d := 163) (v := ?_) rfl rfl (by kernel_rfl) (by kernel_rfl) (by kernel_rfl) (by kernel_rfl) (fun _ _ _ _ _ h => h) (by rfl) ?_ (fun _ => hC) ?_
              rotate_left
              · intro w
                go_simp
                try with_reducible rfl
              (try simp only [Act.put, List.setIfInBounds_toArray, List.set_cons_zero, List.set_cons_succ])
              refine skipL (i := 20) (d := 164) rfl rfl (by kernel_rfl) (by kernel_rfl) (by kernel_rfl) (by kernel_rfl) (fun _ _ _ _ _ h => h) (by rfl) (fun _ => hC) ?_
              (try simp only [Act.put, List.setIfInBounds_toArray, List.set_cons_zero, List.set_cons_succ])
              refine skipL (i := 21) (d := 165) rfl rfl (by kernel_rfl) (by kernel_rfl) (by kernel_rfl) (by kernel_rfl) (fun _ _ _ _ _ h => h) (by rfl) (fun _ => hC) ?_
              (try simp only [Act.put, List.setIfInBounds_toArray, List.set_cons_zero, List.set_cons_succ])
              refine skipL (i := 22) (d := 166) rfl rfl (by kernel_rfl) (by kernel_rfl) (by kernel_rfl) (by kernel_rfl) (fun _ _ _ _ _ h => h) (by rfl) (fun _ => hC) ?_
              (try simp only [Act.put, List.setIfInBounds_toArray, List.set_cons_zero, List.set_cons_succ])
              refine skipL (i := 23) (d := 167) rfl rfl (by kernel_rfl) (by kernel_rfl) (by kernel_rfl) (by kernel_rfl) (fun _ _ _ _ _ h => h) (by rfl) (fun _ => hC) ?_
              (try simp only [Act.put, List.setIfInBounds_toArray, List.set_cons_zero, List.set_cons_succ])
              refine skipL (i := 24) (d := 168) rfl rfl (by kernel_rfl) (by kernel_rfl) (by kernel_rfl) (by kernel_rfl) (fun _ _ _ _ _ h => h) (by rfl) (fun _ => hC) ?_
              (try simp only [Act.put, List.setIfInBounds_toArray, List.set_cons_zero, List.set_cons_succ])
              refine takeL0 (i := 25) (d := 169) (v := ?_) rfl rfl (by kernel_rfl) (by kernel_rfl) (by kernel_rfl) (by kernel_rfl) (fun _ _ _ _ _ h => h) (by rfl) ?_ (fun _ => hC) ?_
              rotate_left
              · intro w
                go_simp
                try with_reducible rfl
              (try simp only [Act.put, List.setIfInBounds_toArray, List.set_cons_zero, List.set_cons_succ])
              refine anyL_done (by kernel_rfl) ?_ _
              refine NoPanic.normal ?_
              clear hC hT hN1 hN2 q1
              go_wp2_with fail
              go_roundw
              case rel => exact ⟨h + 1, by omega, by go_num, HD.out.drew⟩
              case measure => simp [intOf]; omega
    · obtain rfl : h = rooms.length := by omega
      have H8 := Lib.hid HR.out
      clear HR H7
      obtain ⟨k0, k1, k2, k3⟩ := four_at (H8.out.pw.at 0 rfl)
      have hN6 : ¬ (N.length : Int) = 6 := by omega
      have hN7 : ¬ N.length = 6 := by omega
      have hct2 : IsInts wr wr.heap.size (.slice (some ⟨gt, 0, none⟩) rooms.length qt) traps := by
        have := (HCOL.out _ _ H8.out.pw rfl rfl rfl rfl).2.1
        rw [HTL.out] at this
        exact this
      have HCT := Lib.hid hct2
      clear hct2
      go_wp2_with fail
      refine (contains_any (.slice (some ⟨gt, 0, none⟩) rooms.length qt) traps 0 wr HCT.out).mono ?_
      rintro e w9 ⟨rfl, rfl⟩
      clear hN6 hN7 k0 k1 k2 k3
      cases hany : anyB (isAt traps 0) traps.length
      · have HTP : Hid (∀ h, h < rooms.length → nth traps h ≠ 0) := fun h hh e => by
          have h1 : anyB (isAt traps 0) traps.length = true := (anyB_ex _ _).2 ⟨h, by rw [HTN.out]; exact hh, by unfold isAt; rw [e]; rfl⟩
          rw [hany] at h1; cases h1
        clear hany
        obtain ⟨k0, k1, k2, k3⟩ := four_at (H8.out.pw.at 0 rfl)
        go_wp2_with fail
        refine (ownSep_any rooms.length ⟨rooms, traps, rs, N⟩ _ _ _ _ wr (by rw [HCE.out]; exact HCOL.out _ _ H8.out.pw rfl rfl rfl rfl) HOK.out).mono ?_
        rintro e wA ⟨ra, ta, ua, na, A1, A2, A3, A4, nba, rfl, hA1, hA2, hA3, hA4, hsA, hbA⟩
        obtain ⟨ga, ca, rfl, hca, _⟩ := int_row_cells (hsA.at 0 rfl) rfl hn0
        obtain ⟨ta1, ta2, rfl⟩ := owns_slice (hsA.at 1 rfl)
        obtain ⟨ua1, ua2, rfl⟩ := owns_slice (hsA.at 2 rfl)
        obtain ⟨⟨⟨fsa, hoa, qx1⟩, qx2⟩, qx3⟩ : (pRowsI A4 rooms.length na nba N).told wA := hsA.at 3 rfl
        clear qx1 qx2 qx3
        obtain ⟨na1, na2, rfl⟩ := owns_slice hoa
        have HA := Lib.hid ((H8.out.pw.both hbA hsA).newBlk 26 #[.slice (some ⟨ga, 0, none⟩) rooms.length ca, .slice ta1 rooms.length ta2, .slice ua1 rs.length ua2, .slice na1 N.length na2])
        clear hsA hbA hoa k0 k1 k2 k3 hA1 hA2 hA3 H8 HCT
        go_upto_region 30 with (fail)
        obtain ⟨WA, hWA⟩ : ∃ WA, wA.alloc (.cells #[.slice (some ⟨ga, 0, none⟩) rooms.length ca, .slice ta1 rooms.length ta2, .slice ua1 rs.length ua2, .slice na1 N.length na2] 26) = WA := ⟨_, rfl⟩
        obtain ⟨b20, hb20⟩ : ∃ b20, wA.heap.size = b20 := ⟨_, rfl⟩
        have hA := HA.out
        have hA5 : A4 ≤ WA.heap.size := by rw [← hWA]; simp; omega
        rw [hWA, hb20] at hA
        rw [hWA, hb20]
        have HA := Lib.hid hA.drew
        have HA5 := Lib.hid hA5
        clear hWA hb20 hA hA4 hA5
        go_cut [] (fun wx => Hid (EmptyAt w b20 ga ca ta1 ta2 ua1 ua2 rooms.length A1 A2 A3 A4 rooms traps rs N b8 lo hi wx))
        case first =>
         have hC : Box24 b20 b5 (.slice na1 N.length na2) (.slice (some ⟨gr, 0, none⟩) rooms.length qr) WA.drew := ⟨(four_at (HA.out.at 10 rfl)).2.2.2, (four_at (HA.out.at 0 rfl)).1⟩
         have hmk := make_intsN rooms.length (by omega)
         refine wp_region_noPanic ?_
         refine anyL_start (S := Till [9] (Box24 b20 b5 (.slice na1 N.length na2) (.slice (some ⟨gr, 0, none⟩) rooms.length qr))) (by kernel_rfl) (fun _ => hC) (fun hT => ?_)
         refine takeL0 (i := 0) (d := 183) (v := ?_) rfl rfl (by kernel_rfl) (by kernel_rfl) (by kernel_rfl) (by kernel_rfl) (fun _ _ _ _ _ h => h) (by rfl) ?_ (fun _ => hC) ?_
         rotate_left
         · intro w
           go_simp
           try with_reducible rfl
         (try simp only [Act.put, List.setIfInBounds_toArray, List.set_cons_zero, List.set_cons_succ])
         refine takeL0 (i := 2) (d := 185) (v := ?_) rfl rfl (by kernel_rfl) (by kernel_rfl) (by kernel_rfl) (by kernel_rfl) (fun _ _ _ _ _ h => h) (by rfl) ?_ (fun _ => hC) ?_
         rotate_left
         · intro w
           go_simp
           try with_reducible rfl
         (try simp only [Act.put, List.setIfInBounds_toArray, List.set_cons_zero, List.set_cons_succ])
         refine takeL (i := 1) (d := 184) (v := ?_) rfl rfl (by kernel_rfl) (by kernel_rfl) (by kernel_rfl) (by kernel_rfl) (by kernel_rfl) (by kernel_rfl) (fun _ _ _ _ _ h => h) (by rfl) ?_ hC ?_
         rotate_left
         · intro w hSw
           (try dsimp only at hSw)
           obtain ⟨hS0, hS1⟩ := hSw
           go_simp
           try with_reducible rfl
         (try simp only [Act.put, List.setIfInBounds_toArray, List.set_cons_zero, List.set_cons_succ])
         refine takeL (i := 3) (d := 186) (v := ?_) rfl rfl (by kernel_rfl) (by kernel_rfl) (by kernel_rfl) (by kernel_rfl) (by kernel_rfl) (by kernel_rfl) (fun _ _ _ _ _ h => h) (by rfl) ?_ hC ?_
         rotate_left
         · intro w hSw
           (try dsimp only at hSw)
           obtain ⟨hS0, hS1⟩ := hSw
           go_simp
           try with_reducible rfl
         (try simp only [Act.put, List.setIfInBounds_toArray, List.set_cons_zero, List.set_cons_succ])
         refine takeL0 (i := 4) (d := 187) (v := ?_) rfl rfl (by kernel_rfl) (by kernel_rfl) (by kernel_rfl) (by kernel_rfl) (fun _ _ _ _ _ h => h) (by rfl) ?_ (fun _ => hC) ?_
         rotate_left
         · intro w
           go_simp
           try with_reducible rfl
         (try simp only [Act.put, List.setIfInBounds_toArray, List.set_cons_zero, List.set_cons_succ])
         refine nextW (i := 5) rfl (by kernel_rfl) (by rfl) (fun K hK => ?_)
         go_simp
         have hz0 := HA.out.newInts rooms.length
         (try simp only [World.size_alloc, World.size_drew, World.alloc_drew] at hz0)
         generalize hWB : World.drew (World.alloc _ _) = wB at hz0 ⊢
         have hzB := congrArg (fun v : World => v.heap.size) hWB
         (try simp only [World.size_alloc, World.size_drew, World.alloc_drew] at hzB)
         have HB := Lib.hid hz0
         have HZB := Lib.hid hzB
         clear hC hWB hz0 hzB
         have hC : Box24 b20 b5 (.slice na1 N.length na2) (.slice (some ⟨gr, 0, none⟩) rooms.length qr) wB := ⟨(four_at (HB.out.at 10 rfl)).2.2.2, (four_at (HB.out.at 0 rfl)).1⟩
         refine hK.out _ _ (fun _ => hC) ?_
         clear hK K
         (try simp only [Act.put, List.setIfInBounds_toArray, List.set_cons_zero, List.set_cons_succ])
         refine nextW (i := 6) rfl (by kernel_rfl) (by rfl) (fun K hK => ?_)
         refine op_build rfl rfl (build_one _ _ _ _) ?_
         (try simp only [Act.put, List.setIfInBounds_toArray, List.set_cons_zero, List.set_cons_succ])
         have hz0 := HB.out.newBlk 22 #[.slice (some ⟨WA.heap.size, 0, none⟩) rooms.length rooms.length]
         (try simp only [World.size_alloc, World.size_drew, World.alloc_drew] at hz0)
         generalize hWD : World.alloc _ _ = wD at hz0 ⊢
         have hzD := congrArg (fun v : World => v.heap.size) hWD
         (try simp only [World.size_alloc, World.size_drew, World.alloc_drew] at hzD)
         have HD := Lib.hid hz0
         have HZD := Lib.hid hzD
         clear hC hWD hz0 hzD
         have hC : Box24 b20 b5 (.slice na1 N.length na2) (.slice (some ⟨gr, 0, none⟩) rooms.length qr) wD := ⟨(four_at (HD.out.at 10 rfl)).2.2.2, (four_at (HD.out.at 0 rfl)).1⟩
         refine hK.out _ _ (fun _ => hC) ?_
         clear hK K
         (try simp only [Act.put, List.setIfInBounds_toArray, List.set_cons_zero, List.set_cons_succ])
         refine nextL (i := 7) rfl (by kernel_rfl) (fun K hK => ?_)
         refine HD.out.step_rows (rows := N) (r1 := List.replicate rooms.length 0) (by rw [List.map_const']; simp) 9 11 rfl rfl (by decide) (by have := HZB.out; have := HZD.out; have := HA5.out; omega) (by omega) (Nat.le_refl _) rfl _ _ (by rfl) (by rfl) _ (by rfl) (World.news_of_block (HD.out.at 12 rfl)) ?_
         intro g cap w' hm hb' 
         change K (Act.put _ (some 190) _) _
         have HM := Lib.hid hm
         clear hC hm hb'
         have hC : Box24 b20 b5 (.slice na1 N.length na2) (.slice (some ⟨gr, 0, none⟩) rooms.length qr) w' := ⟨(four_at (HM.out.at 10 rfl)).2.2.2, (four_at (HM.out.at 0 rfl)).1⟩
         refine hK.out _ _ (fun _ => hC) ?_
         clear hK K
         (try simp only [Act.put, List.setIfInBounds_toArray, List.set_cons_zero, List.set_cons_succ])
         refine takeL0 (i := 8) (d := 191) (v := ?_) rfl rfl (by kernel_rfl) (by kernel_rfl) (by kernel_rfl) (by kernel_rfl) (fun _ _ _ _ _ h => h) (by rfl) ?_ (fun _ => hC) ?_
         rotate_left
         · intro w
           go_simp
           try with_reducible rfl
         (try simp only [Act.put, List.setIfInBounds_toArray, List.set_cons_zero, List.set_cons_succ])
         refine nextL (i := 9) rfl (by kernel_rfl) (fun K hK => ?_)
         have z3 := (four_at (HM.out.at 10 rfl)).2.2.2
         have f3 := box_free (HM.out.at 10 rfl) 3
         go_simp
         have HN := Lib.hid ((HM.out.setBlk 10 rfl 3 (.slice (some ⟨g, 0, none⟩) (N.length + 1) cap)).pick [10, 6, 7, 8, 9, 5] (by decide) (ps' := [pBlk b20 26 #[.slice (some ⟨ga, 0, none⟩) rooms.length ca, .slice ta1 rooms.length ta2, .slice ua1 rs.length ua2, .slice (some ⟨g, 0, none⟩) (N.length + 1) cap], pRow A1 3 1 rooms.length (.slice (some ⟨ga, 0, none⟩) rooms.length ca) (intsV rooms), pRow A2 3 1 rooms.length (.slice ta1 rooms.length ta2) (intsV traps), pRow A3 63 2 rs.length (.slice ua1 rs.length ua2) (pairsV rs), pRows A4 rooms.length (.slice (some ⟨g, 0, none⟩) (N.length + 1) cap) (fun t => if t = N.length then WA.heap.size else nba t) (N ++ [List.replicate rooms.length 0]), pBlk b8 49 #[.int .i64 lo, .int .i64 hi]]) rfl)
         generalize hWE : World.setCell _ _ _ = wE at HN ⊢
         clear hWE z3 f3 hC
         refine hK.out _ _ (Till.done (by kernel_rfl)) ?_
         clear hK K
         (try simp only [Act.put, List.setIfInBounds_toArray, List.set_cons_zero, List.set_cons_succ])
         refine anyL_done (by kernel_rfl) ?_ _
         refine NoPanic.normal ?_
         clear hT hmk
         go_wp2_with fail
         go_meet
         exact ⟨g, cap, _, HN.out⟩
        case rest =>
        obtain ⟨g, cap, nbE, hP⟩ := hcut.out
        have HN := Lib.hid hP
        clear hcut hP HA HA5
        obtain ⟨E, hE⟩ : ∃ E : Col, emptyC rooms traps rs N = E := ⟨_, rfl⟩
        have hfe0 : fitErr ⟨rooms, traps, rs, N⟩ = 0 := by rw [HCE.out]; exact HFE.out
        have hel := empty_law hfe0 (by omega) HTP.out
        have her := empty_rest hfe0 (by omega) HTP.out
        rw [HCE.out, HLH.out.1] at her
        rw [hE] at hel her
        have HEL := Lib.hid hel
        have HER := Lib.hid her
        have HCOLE : Hid (∀ W ps, PW w W ps → ps[1]? = some (pRow A1 3 1 rooms.length (.slice (some ⟨ga, 0, none⟩) rooms.length ca) (intsV rooms)) → ps[2]? = some (pRow A2 3 1 rooms.length (.slice ta1 rooms.length ta2) (intsV traps)) → ps[3]? = some (pRow A3 63 2 rs.length (.slice ua1 rs.length ua2) (pairsV rs)) → ps[4]? = some (pRows A4 rooms.length (.slice (some ⟨g, 0, none⟩) (N.length + 1) cap) nbE (N ++ [List.replicate rooms.length 0])) → ColAt W W.heap.size (.slice (some ⟨ga, 0, none⟩) rooms.length ca) (.slice ta1 rooms.length ta2) (.slice ua1 rs.length ua2) (.slice (some ⟨g, 0, none⟩) (N.length + 1) cap) E) := fun W ps H e2 e3 e4 e5 => by
          have q := (fit_parts HEL.out.1).1
          rw [← hE] at q ⊢
          exact cols_read q rfl (H.at 1 e2) (H.at 2 e3) (H.at 3 e4) (H.at 4 e5)
        have HEA : Hid ((afterC E).length = rooms.length) := by rw [← hE]; exact afterTo_len _ _
        clear hE hfe0 hel her
        obtain ⟨k0, k1, k2, k3⟩ := four_at (HN.out.at 0 rfl)
        go_wp2_with fail
        refine (Rats_ok E _ _ _ _ wc (HCOLE.out _ _ HN.out rfl rfl rfl rfl) HEL.out.1).mono ?_
        rintro e w21 ⟨rfl, hb21⟩
        rw [HER.out.1]
        have HQ1 := Lib.hid ((HN.out.below hb21).newBlk 49 #[.int .i64 lo, .int .i64 lo])
        clear hb21 k0 k1 k2 k3
        go_upto_region 32 with (fail)
        obtain ⟨W21, hW21⟩ : ∃ W21, w21.alloc (.cells #[.int .i64 lo, .int .i64 lo] 49) = W21 := ⟨_, rfl⟩
        obtain ⟨b21, hb21⟩ : ∃ b21, w21.heap.size = b21 := ⟨_, rfl⟩
        have hq1 := HQ1.out
        rw [hW21, hb21] at hq1
        rw [hW21, hb21]
        have HQ1 := Lib.hid hq1
        clear hW21 hb21 hq1 HN
        obtain ⟨k0, k1, k2, k3⟩ := four_at (HQ1.out.at 0 rfl)
        go_wp2_with fail
        refine (After_ok E _ _ _ _ W21 (HCOLE.out _ _ HQ1.out rfl rfl rfl rfl) HEL.out.1).mono ?_
        rintro e w22 ⟨av2, rfl, ha22, hb22⟩
        have HQ2 := Lib.hid (HQ1.out.below hb22)
        have HA22 := Lib.hid ha22
        clear hb22 ha22 k0 k1 k2 k3 HQ1
        obtain ⟨k0, k1, k2, k3⟩ := four_at (HQ2.out.at 0 rfl)
        go_wp2_with fail
        refine (Baits_ok E _ _ _ _ 0 w22 (HCOLE.out _ _ HQ2.out rfl rfl rfl rfl) HER.out.2.2.1).mono ?_
        rintro e w23 ⟨bv, rfl, hv23, hb23⟩
        have hbe : baitsC E ((0 : Int)).toNat = [] := HER.out.2.2.2.1
        rw [hbe] at hv23
        obtain ⟨abv, qbv, rfl, _, _, _⟩ := hv23.open
        have HQ3 := Lib.hid (HQ2.out.below hb23)
        have HA23 := Lib.hid ((HA22.out.below hb23 (Nat.le_refl _)).mono hb23.size)
        clear hb23 hv23 hbe k0 k1 k2 k3 HQ2 HA22
        rw [List.length_nil]
        obtain ⟨k0, k1, k2, k3⟩ := four_at (HQ3.out.at 0 rfl)
        go_wp2_with fail
        refine (Grow_ok E _ _ _ _ 100 20 w23 (HCOLE.out _ _ HQ3.out rfl rfl rfl rfl) HER.out.2.2.2.2.1).mono ?_
        rintro e w24 ⟨rfl, hb24⟩
        rw [HER.out.2.2.2.2.2]
        have HQ4 := Lib.hid ((HQ3.out.below hb24).newBlk 49 #[.int .i64 0, .int .i64 0])
        have hba : Below w24.heap.size w24 (w24.alloc (.cells #[.int .i64 0, .int .i64 0] 49)) := (Below.refl _ _).alloc (Nat.le_refl _) _
        have hbb := hb24.trans (hba.mono hb24.size)
        have HA24 := Lib.hid ((HA23.out.below hbb (Nat.le_refl _)).mono hbb.size)
        clear hb24 hba hbb k0 k1 k2 k3 HQ3 HA23
        go_upto_region 35 with (fail)
        obtain ⟨W24, hW24⟩ : ∃ W24, w24.alloc (.cells #[.int .i64 0, .int .i64 0] 49) = W24 := ⟨_, rfl⟩
        obtain ⟨b24, hb24⟩ : ∃ b24, w24.heap.size = b24 := ⟨_, rfl⟩
        have hq4 := HQ4.out
        have ha4 := HA24.out
        rw [hW24, hb24] at hq4
        rw [hW24] at ha4
        rw [hW24, hb24]
        have HQ4 := Lib.hid hq4.drew
        have HA24 := Lib.hid (ha4.below ((Below.refl W24.heap.size W24).drew) (Nat.le_refl _))
        clear hW24 hb24 hq4 ha4
        have e1 := eqs_Span1 lo lo
        have e2 := eqs_Span1 0 0
        have hC : Box6s b21 b8 b24 lo hi W24.drew := ⟨(two_at (HQ4.out.at 6 rfl)).1, (two_at (HQ4.out.at 6 rfl)).2, (two_at (HQ4.out.at 5 rfl)).1, (two_at (HQ4.out.at 5 rfl)).2, (two_at (HQ4.out.at 7 rfl)).1, (two_at (HQ4.out.at 7 rfl)).2⟩
        refine wp_region_noPanic ?_
        refine anyL_start (S := Till [] (Box6s b21 b8 b24 lo hi)) (by kernel_rfl) (fun _ => hC) (fun hT => ?_)
        refine takeL0 (i := 0) (d := 212) (v := ?_) rfl rfl (by kernel_rfl) (by kernel_rfl) (by kernel_rfl) (by kernel_rfl) (fun _ _ _ _ _ h => h) (by rfl) ?_ (fun _ => hC) ?_
        rotate_left
        · intro w
          go_simp
          try with_reducible rfl
        (try simp only [Act.put, List.setIfInBounds_toArray, List.set_cons_zero, List.set_cons_succ])
        refine takeL0 (i := 1) (d := 213) (v := ?_) rfl rfl (by kernel_rfl) (by kernel_rfl) (by kernel_rfl) (by kernel_rfl) (fun _ _ _ _ _ h => h) (by rfl) ?_ (fun _ => hC) ?_
        rotate_left
        · intro w
          go_simp
          try with_reducible rfl
        (try simp only [Act.put, List.setIfInBounds_toArray, List.set_cons_zero, List.set_cons_succ])
        refine takeL0 (i := 2) (d := 214) (v := ?_) rfl rfl (by kernel_rfl) (by kernel_rfl) (by kernel_rfl) (by kernel_rfl) (fun _ _ _ _ _ h => h) (by rfl) ?_ (fun _ => hC) ?_
        rotate_left
        · intro w
          go_simp
          try with_reducible rfl
        (try simp only [Act.put, List.setIfInBounds_toArray, List.set_cons_zero, List.set_cons_succ])
        refine takeL0 (i := 3) (d := 215) (v := ?_) rfl rfl (by kernel_rfl) (by kernel_rfl) (by kernel_rfl) (by kernel_rfl) (fun _ _ _ _ _ h => h) (by rfl) ?_ (fun _ => hC) ?_
        rotate_left
        · intro w
          go_simp
          try with_reducible rfl
        (try simp only [Act.put, List.setIfInBounds_toArray, List.set_cons_zero, List.set_cons_succ])
        refine takeL0 (i := 4) (d := 216) (v := ?_) rfl rfl (by kernel_rfl) (by kernel_rfl) (by kernel_rfl) (by kernel_rfl) (fun _ _ _ _ _ h => h) (by rfl) ?_ (fun _ => hC) ?_
        rotate_left
        · intro w
          go_simp
          try with_reducible rfl
        (try simp only [Act.put, List.setIfInBounds_toArray, List.set_cons_zero, List.set_cons_succ])
        refine takeL0 (i := 5) (d := 217) (v := ?_) rfl rfl (by kernel_rfl) (by kernel_rfl) (by kernel_rfl) (by kernel_rfl) (fun _ _ _ _ _ h => h) (by rfl) ?_ (fun _ => hC) ?_
        rotate_left
        · intro w
          go_simp
          try with_reducible rfl
        (try simp only [Act.put, List.setIfInBounds_toArray, List.set_cons_zero, List.set_cons_succ])
        refine takeL0 (i := 6) (d := 218) (v := ?_) rfl rfl (by kernel_rfl) (by kernel_rfl) (by kernel_rfl) (by kernel_rfl) (fun _ _ _ _ _ h => h) (by rfl) ?_ (fun _ => hC) ?_
        rotate_left
        · intro w
          go_simp
          try with_reducible rfl
        (try simp only [Act.put, List.setIfInBounds_toArray, List.set_cons_zero, List.set_cons_succ])
        refine takeL0 (i := 7) (d := 219) (v := ?_) rfl rfl (by kernel_rfl) (by kernel_rfl) (by kernel_rfl) (by kernel_rfl) (fun _ _ _ _ _ h => h) (by rfl) ?_ (fun _ => hC) ?_
        rotate_left
        · intro w
          go_simp
          try with_reducible rfl
        (try simp only [Act.put, List.setIfInBounds_toArray, List.set_cons_zero, List.set_cons_succ])
        refine takeL0 (i := 8) (d := 220) (v := ?_) rfl rfl (by kernel_rfl) (by kernel_rfl) (by kernel_rfl) (by kernel_rfl) (fun _ _ _ _ _ h => h) (by rfl) ?_ (fun _ => hC) ?_
        rotate_left
        · intro w
          go_simp
          try with_reducible rfl
        (try simp only [Act.put, List.setIfInBounds_toArray, List.set_cons_zero, List.set_cons_succ])
        refine takeL0 (i := 9) (d := 221) (v := ?_) rfl rfl (by kernel_rfl) (by kernel_rfl) (by kernel_rfl) (by kernel_rfl) (fun _ _ _ _ _ h => h) (by rfl) ?_ (fun _ => hC) ?_
        rotate_left
        · intro w
          go_simp
          try with_reducible rfl
        (try simp only [Act.put, List.setIfInBounds_toArray, List.set_cons_zero, List.set_cons_succ])
        refine takeL0 (i := 10) (d := 222) (v := ?_) rfl rfl (by kernel_rfl) (by kernel_rfl) (by kernel_rfl) (by kernel_rfl) (fun _ _ _ _ _ h => h) (by rfl) ?_ (fun _ => hC) ?_
        rotate_left
        · intro w
          go_simp
          try with_reducible rfl
        (try simp only [Act.put, List.setIfInBounds_toArray, List.set_cons_zero, List.set_cons_succ])
        refine takeL0 (i := 11) (d := 223) (v := ?_) rfl rfl (by kernel_rfl) (by kernel_rfl) (by kernel_rfl) (by kernel_rfl) (fun _ _ _ _ _ h => h) (by rfl) ?_ (fun _ => hC) ?_
        rotate_left
        · intro w
          go_simp
          try with_reducible rfl
        (try simp only [Act.put, List.setIfInBounds_toArray, List.set_cons_zero, List.set_cons_succ])
        refine takeL0 (i := 12) (d := 224) (v := ?_) rfl rfl (by kernel_rfl) (by kernel_rfl) (by kernel_rfl) (by kernel_rfl) (fun _ _ _ _ _ h => h) (by rfl) ?_ (fun _ => hC) ?_
        rotate_left
        · intro w
          go_simp
          try with_reducible rfl
        (try simp only [Act.put, List.setIfInBounds_toArray, List.set_cons_zero, List.set_cons_succ])
        refine takeL0 (i := 13) (d := 225) (v := ?_) rfl rfl (by kernel_rfl) (by kernel_rfl) (by kernel_rfl) (by kernel_rfl) (fun _ _ _ _ _ h => h) (by rfl) ?_ (fun _ => hC) ?_
        rotate_left
        · intro w
          go_simp
          try with_reducible rfl
        (try simp only [Act.put, List.setIfInBounds_toArray, List.set_cons_zero, List.set_cons_succ])
        refine takeL0 (i := 14) (d := 226) (v := ?_) rfl rfl (by kernel_rfl) (by kernel_rfl) (by kernel_rfl) (by kernel_rfl) (fun _ _ _ _ _ h => h) (by rfl) ?_ (fun _ => hC) ?_
        rotate_left
        · intro w
          go_simp
          try with_reducible rfl
        (try simp only [Act.put, List.setIfInBounds_toArray, List.set_cons_zero, List.set_cons_succ])
        refine takeL0 (i := 16) (d := 228) (v := ?_) rfl rfl (by kernel_rfl) (by kernel_rfl) (by kernel_rfl) (by kernel_rfl) (fun _ _ _ _ _ h => h) (by rfl) ?_ (fun _ => hC) ?_
        rotate_left
        · intro w
          go_simp
          try with_reducible rfl
        (try simp only [Act.put, List.setIfInBounds_toArray, List.set_cons_zero, List.set_cons_succ])
        refine takeL0 (i := 18) (d := 230) (v := ?_) rfl rfl (by kernel_rfl) (by kernel_rfl) (by kernel_rfl) (by kernel_rfl) (fun _ _ _ _ _ h => h) (by rfl) ?_ (fun _ => hC) ?_
        rotate_left
        · intro w
          go_simp
          try with_reducible rfl
        (try simp only [Act.put, List.setIfInBounds_toArray, List.set_cons_zero, List.set_cons_succ])
        refine takeL (i := 15) (d := 227) (v := ?_) rfl rfl (by kernel_rfl) (by kernel_rfl) (by kernel_rfl) (by kernel_rfl) (by kernel_rfl) (by kernel_rfl) (fun _ _ _ _ _ h => h) (by rfl) ?_ hC ?_
        rotate_left
        · intro w hSw
          (try dsimp only at hSw)
          obtain ⟨hS0, hS1, hS2, hS3, hS4, hS5⟩ := hSw
          go_simp
          try with_reducible rfl
        (try simp only [Act.put, List.setIfInBounds_toArray, List.set_cons_zero, List.set_cons_succ])
        refine takeL (i := 17) (d := 229) (v := ?_) rfl rfl (by kernel_rfl) (by kernel_rfl) (by kernel_rfl) (by kernel_rfl) (by kernel_rfl) (by kernel_rfl) (fun _ _ _ _ _ h => h) (by rfl) ?_ hC ?_
        rotate_left
        · intro w hSw
          (try dsimp only at hSw)
          obtain ⟨hS0, hS1, hS2, hS3, hS4, hS5⟩ := hSw
          go_simp
          try with_reducible rfl
        (try simp only [Act.put, List.setIfInBounds_toArray, List.set_cons_zero, List.set_cons_succ])
        refine takeL (i := 19) (d := 231) (v := ?_) rfl rfl (by kernel_rfl) (by kernel_rfl) (by kernel_rfl) (by kernel_rfl) (by kernel_rfl) (by kernel_rfl) (fun _ _ _ _ _ h => h) (by rfl) ?_ hC ?_
        rotate_left
        · intro w hSw
          (try dsimp only at hSw)
          obtain ⟨hS0, hS1, hS2, hS3, hS4, hS5⟩ := hSw
          go_simp
          try with_reducible rfl
        (try simp only [Act.put, List.setIfInBounds_toArray, List.set_cons_zero, List.set_cons_succ])
        refine nextW (i := 20) rfl (by kernel_rfl) (by rfl) (fun K hK => ?_)
        go_simp
        refine (span_any lo lo _).mono ?_
        rintro e w25 ⟨rfl, hw25⟩
        have hb25 : Below W24.drew.heap.size W24.drew w25 := by rw [← hw25]; exact (Below.refl _ _).alloc (Nat.le_refl _) _
        have HQ5 := Lib.hid (HQ4.out.below hb25)
        have HA25 := Lib.hid ((HA24.out.below hb25 (Nat.le_refl _)).mono hb25.size)
        have hC2 := hC.below hb25
        clear hC hb25 hw25
        have hC := hC2
        clear hC2
        go_simp
        refine hK.out _ _ (fun _ => hC) ?_
        clear hK K
        (try simp only [Act.put, List.setIfInBounds_toArray, List.set_cons_zero, List.set_cons_succ])
        refine takeL0 (i := 21) (d := 233) (v := ?_) rfl rfl (by kernel_rfl) (by kernel_rfl) (by kernel_rfl) (by kernel_rfl) (fun _ _ _ _ _ h => h) (by rfl) ?_ (fun _ => hC) ?_
        rotate_left
        · intro w
          go_simp
          try with_reducible rfl
        (try simp only [Act.put, List.setIfInBounds_toArray, List.set_cons_zero, List.set_cons_succ])
        refine takeL0 (i := 22) (d := 234) (v := ?_) rfl rfl (by kernel_rfl) (by kernel_rfl) (by kernel_rfl) (by kernel_rfl) (fun _ _ _ _ _ h => h) (by rfl) ?_ (fun _ => hC) ?_
        rotate_left
        · intro w
          go_simp
          try with_reducible rfl
        (try simp only [Act.put, List.setIfInBounds_toArray, List.set_cons_zero, List.set_cons_succ])
        refine takeL0 (i := 23) (d := 235) (v := ?_) rfl rfl (by kernel_rfl) (by kernel_rfl) (by kernel_rfl) (by kernel_rfl) (fun _ _ _ _ _ h => h) (by rfl) ?_ (fun _ => hC) ?_
        rotate_left
        · intro w
          go_simp
          try with_reducible rfl
        (try simp only [Act.put, List.setIfInBounds_toArray, List.set_cons_zero, List.set_cons_succ])
        refine takeL0 (i := 24) (d := 236) (v := ?_) rfl rfl (by kernel_rfl) (by kernel_rfl) (by kernel_rfl) (by kernel_rfl) (fun _ _ _ _ _ h => h) (by rfl) ?_ (fun _ => hC) ?_
        rotate_left
        · intro w
          go_simp
          try with_reducible rfl
        (try simp only [Act.put, List.setIfInBounds_toArray, List.set_cons_zero, List.set_cons_succ])
        refine nextW (i := 25) rfl (by kernel_rfl) (by rfl) (fun K hK => ?_)
        go_simp
        refine (totalI_any (afterC E) _ w25 HA25.out (fun i hi => by have := HER.out.2.1 i (by rw [← HEA.out]; exact hi); omega)).mono ?_
        rintro e w26 ⟨rfl, rfl⟩
        go_simp
        refine hK.out _ _ (fun _ => hC) ?_
        clear hK K
        (try simp only [Act.put, List.setIfInBounds_toArray, List.set_cons_zero, List.set_cons_succ])
        refine takeL0 (i := 26) (d := 238) (v := ?_) rfl rfl (by kernel_rfl) (by kernel_rfl) (by kernel_rfl) (by kernel_rfl) (fun _ _ _ _ _ h => h) (by rfl) ?_ (fun _ => hC) ?_
        rotate_left
        · intro w
          go_simp
          try with_reducible rfl
        (try simp only [Act.put, List.setIfInBounds_toArray, List.set_cons_zero, List.set_cons_succ])
        refine takeL0 (i := 27) (d := 239) (v := ?_) rfl rfl (by kernel_rfl) (by kernel_rfl) (by kernel_rfl) (by kernel_rfl) (fun _ _ _ _ _ h => h) (by rfl) ?_ (fun _ => hC) ?_
        rotate_left
        · intro w
          go_simp
          try with_reducible rfl
        (try simp only [Act.put, List.setIfInBounds_toArray, List.set_cons_zero, List.set_cons_succ])
        refine takeL0 (i := 28) (d := 240) (v := ?_) rfl rfl (by kernel_rfl) (by kernel_rfl) (by kernel_rfl) (by kernel_rfl) (fun _ _ _ _ _ h => h) (by rfl) ?_ (fun _ => hC) ?_
        rotate_left
        · intro w
          go_simp
          try with_reducible rfl
        (try simp only [Act.put, List.setIfInBounds_toArray, List.set_cons_zero, List.set_cons_succ])
        refine takeL0 (i := 29) (d := 241) (v := ?_) rfl rfl (by kernel_rfl) (by kernel_rfl) (by kernel_rfl) (by kernel_rfl) (fun _ _ _ _ _ h => h) (by rfl) ?_ (fun _ => hC) ?_
        rotate_left
        · intro w
          go_simp
          try with_reducible rfl
        (try simp only [Act.put, List.setIfInBounds_toArray, List.set_cons_zero, List.set_cons_succ])
        refine takeL0 (i := 30) (d := 242) (v := ?_) rfl rfl (by kernel_rfl) (by kernel_rfl) (by kernel_rfl) (by kernel_rfl) (fun _ _ _ _ _ h => h) (by rfl) ?_ (fun _ => hC) ?_
        rotate_left
        · intro w
          go_simp
          try with_reducible rfl
        (try simp only [Act.put, List.setIfInBounds_toArray, List.set_cons_zero, List.set_cons_succ])
        refine takeL0 (i := 31) (d := 243) (v := ?_) rfl rfl (by kernel_rfl) (by kernel_rfl) (by kernel_rfl) (by kernel_rfl) (fun _ _ _ _ _ h => h) (by rfl) ?_ (fun _ => hC) ?_
        rotate_left
        · intro w
          go_simp
          try with_reducible rfl
        (try simp only [Act.put, List.setIfInBounds_toArray, List.set_cons_zero, List.set_cons_succ])
        refine takeL0 (i := 32) (d := 244) (v := ?_) rfl rfl (by kernel_rfl) (by kernel_rfl) (by kernel_rfl) (by kernel_rfl) (fun _ _ _ _ _ h => h) (by rfl) ?_ (fun _ => hC) ?_
        rotate_left
        · intro w
          go_simp
          try with_reducible rfl
        (try simp only [Act.put, List.setIfInBounds_toArray, List.set_cons_zero, List.set_cons_succ])
        refine takeL0 (i := 33) (d := 245) (v := ?_) rfl rfl (by kernel_rfl) (by kernel_rfl) (by kernel_rfl) (by kernel_rfl) (fun _ _ _ _ _ h => h) (by rfl) ?_ (fun _ => hC) ?_
        rotate_left
        · intro w
          go_simp
          try with_reducible rfl
        (try simp only [Act.put, List.setIfInBounds_toArray, List.set_cons_zero, List.set_cons_succ])
        refine takeL (i := 34) (d := 246) (v := ?_) rfl rfl (by kernel_rfl) (by kernel_rfl) (by kernel_rfl) (by kernel_rfl) (by kernel_rfl) (by kernel_rfl) (fun _ _ _ _ _ h => h) (by rfl) ?_ hC ?_
        rotate_left
        · intro w hSw
          (try dsimp only at hSw)
          obtain ⟨hS0, hS1, hS2, hS3, hS4, hS5⟩ := hSw
          go_simp
          try with_reducible rfl
        (try simp only [Act.put, List.setIfInBounds_toArray, List.set_cons_zero, List.set_cons_succ])
        refine nextW (i := 35) rfl (by kernel_rfl) (by rfl) (fun K hK => ?_)
        go_simp
        refine (span_any 0 0 _).mono ?_
        rintro e w27 ⟨rfl, hw27⟩
        have hb27 : Below w25.heap.size w25 w27 := by rw [← hw27]; exact (Below.refl _ _).alloc (Nat.le_refl _) _
        have HQ7 := Lib.hid (HQ5.out.below hb27)
        have hC2 := hC.below hb27
        clear hC hb27 hw27
        have hC := hC2
        clear hC2
        go_simp
        refine hK.out _ _ (fun _ => hC) ?_
        clear hK K
        (try simp only [Act.put, List.setIfInBounds_toArray, List.set_cons_zero, List.set_cons_succ])
        refine takeL0 (i := 36) (d := 248) (v := ?_) rfl rfl (by kernel_rfl) (by kernel_rfl) (by kernel_rfl) (by kernel_rfl) (fun _ _ _ _ _ h => h) (by rfl) ?_ (fun _ => hC) ?_
        rotate_left
        · intro w
          go_simp
          try with_reducible rfl
        (try simp only [Act.put, List.setIfInBounds_toArray, List.set_cons_zero, List.set_cons_succ])
        refine takeL0 (i := 37) (d := 249) (v := ?_) rfl rfl (by kernel_rfl) (by kernel_rfl) (by kernel_rfl) (by kernel_rfl) (fun _ _ _ _ _ h => h) (by rfl) ?_ (fun _ => hC) ?_
        rotate_left
        · intro w
          go_simp
          try with_reducible rfl
        (try simp only [Act.put, List.setIfInBounds_toArray, List.set_cons_zero, List.set_cons_succ])
        refine takeL0 (i := 38) (d := 250) (v := ?_) rfl rfl (by kernel_rfl) (by kernel_rfl) (by kernel_rfl) (by kernel_rfl) (fun _ _ _ _ _ h => h) (by rfl) ?_ (fun _ => hC) ?_
        rotate_left
        · intro w
          go_simp
          try with_reducible rfl
        (try simp only [Act.put, List.setIfInBounds_toArray, List.set_cons_zero, List.set_cons_succ])
        refine nextW (i := 39) rfl (by kernel_rfl) (by rfl) (fun K hK => ?_)
        go_simp
        refine (awake_any w27).mono ?_
        rintro e w28 ⟨rfl, hb28⟩
        have HQ8 := Lib.hid (HQ7.out.below hb28)
        have hC2 := hC.below hb28
        clear hC hb28
        have hC := hC2
        clear hC2
        go_simp
        refine hK.out _ _ (fun _ => hC) ?_
        clear hK K
        (try simp only [Act.put, List.setIfInBounds_toArray, List.set_cons_zero, List.set_cons_succ])
        refine takeL0 (i := 40) (d := 252) (v := ?_) rfl rfl (by kernel_rfl) (by kernel_rfl) (by kernel_rfl) (by kernel_rfl) (fun _ _ _ _ _ h => h) (by rfl) ?_ (fun _ => hC) ?_
        rotate_left
        · intro w
          go_simp
          try with_reducible rfl
        (try simp only [Act.put, List.setIfInBounds_toArray, List.set_cons_zero, List.set_cons_succ])
        refine takeL0 (i := 41) (d := 2) (v := ?_) rfl rfl (by kernel_rfl) (by kernel_rfl) (by kernel_rfl) (by kernel_rfl) (fun _ _ _ _ _ h => h) (by rfl) ?_ (fun _ => hC) ?_
        rotate_left
        · intro w
          go_simp
          try with_reducible rfl
        (try simp only [Act.put, List.setIfInBounds_toArray, List.set_cons_zero, List.set_cons_succ])
        refine anyL_done (by kernel_rfl) ?_ _
        refine NoPanic.normal ?_
        clear hC hT e1 e2
        go_wp2_with fail
        go_ret
        exact ⟨rfl, HQ8.out.low⟩
      · clear hany
        have HPL := Lib.hid H8.out.ge
        clear H8 HCT
        go_wp2_with fail
        refine (awake_any wr).mono ?_
        rintro e w6 ⟨rfl, hb6⟩
        go_wp2_with fail
        go_ret
        exact ⟨rfl, HPL.out.trans (hb6.mono HPL.out.size)⟩
end Go.Proofs.Ytnhifinfjfpoiaa

namespace Go.Proofs.Ytnhifinfjfpoiaa
open Go.RowKit Go.ChangeShapes Go.WideShapes Go.ChangeAt

theorem ownKnob_none : ownKnob Try.prog.godebug = none := by kernel_rfl
theorem laidOut_yes : laidOutB Try.prog = true := by kernel_rfl

set_option maxRecDepth 100000 in
theorem ratNext_lifted (os : Os) (started : os.Started) (H : Type) (enc : TypeId × Value → H) :
    ReturnsInHanded {} Try.checked os 8 .any (Rows.ratNextSpec.pre6 enc Try.prog Try.f8 Rows.ratNextRow.domain false) (Rows.ratNextSpec.post enc Try.prog Try.f8 false true false false) := by
  refine returnsInHanded_of_change_sized (C := Try.checked) ownKnob_none started (by kernel_rfl) Try.func8
    (ChangeSpec.witness6 (enc := enc) (C := Try.checked) false ⟨#[], #[.slice none 0 0], []⟩ 8 (by kernel_rfl) (by kernel_rfl) (by kernel_rfl) (by kernel_rfl)) ?_
  intro W base args ds gs before hval0 hW0 _ hsz0 _
  have hval : ∀ (j : Nat) t v, Try.f8.params[j]? = some t → args[j]? = some v → Value.okWide Try.prog W .any base t v := hval0
  have hsz : (DataW.weightsEach Try.prog (Try.f8.params.toList ++ Rows.ratNextSpec.plain.varTypes Try.prog) (ds ++ gs)).all (· ≤ reachBytes) = true := hsz0
  have hW := hW0
  obtain ⟨p, q, hA0, hV, rfl, hfz, hnd⟩ := hW
  have hA : DataW.TrodAll enc Try.prog W 0 (fun _ => true) true Try.f8.params.toList args.toList ds p := hA0
  rw [Try.params8] at hA hval hsz
  obtain ⟨v0, d0, rfl, rfl, h0⟩ := trodAll_one hA
  obtain ⟨rfl, rfl⟩ := trodVars_none hV
  have k0 := h0
  obtain ⟨b0, hb0⟩ := open_bytes (hval 0 _ v0 rfl rfl) h0 (fun m hm => by
    have := List.all_eq_true.1 hsz m (DataW.weights_mem_each (j := 0) rfl rfl m hm)
    simpa using this)
  refine (ratNext_any v0 b0 W hb0).mono fun e W' ⟨he, hb⟩ => ?_
  subst he
  have hlt0 : ∀ x ∈ p, x.block < W.heap.size := fun x hx => hW0.lt x (by simp [hx])
  have s0 := Below.trod laidOut_yes (by kernel_rfl) (of_decide_eq_true (by kernel_rfl)) k0 hb hlt0
  exact ⟨_, rfl, _, _, _, [], _, _, hW0, trodAll_mk1 (shut_bool Try.underlying4 true), trodAll_mk1 s0, rfl, hb.frame _, fun h => by cases h⟩

theorem ratNext_holds : Rows.RatNextSaid :=
  OpenClaim.holds_of_wide 8 Try.f8 rfl rfl rfl rfl rfl rfl rfl ⟨rfl, rfl, rfl, rfl, rfl⟩ rfl rfl rfl rfl rfl (by kernel_rfl) Try.func8 (by kernel_rfl)
    (of_decide_eq_true (by kernel_rfl)) (by unfold Func.isWrapper; first | (rw [if_pos (by decide +kernel)]; kernel_rfl) | (rw [if_neg (by decide +kernel)]; exact ⟨rfl, rfl⟩))
    (fun os started H enc _ => ratNext_lifted os started H enc)
end Go.Proofs.Ytnhifinfjfpoiaa
