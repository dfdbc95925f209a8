/- RatCounted holds: for whatever bytes the law answers true, and what came in reads as it read before. No condition is laid on the arguments beyond the form's own reach. -/
import Derived.Test.YtnhifinfjfpoiaaK11
import Derived.Test.YtnhifinfjfpoiaaK15
import Derived.Test.YtnhifinfjfpoiaaK17
import Derived.Test.YtnhifinfjfpoiaaK06
import Derived.Test.YtnhifinfjfpoiaaK07
import Derived.Test.YtnhifinfjfpoiaaK08
import Derived.Test.YtnhifinfjfpoiaaRows
import Derived.Test.YtnhifinfjfpoiaaK12
namespace Go.Proofs.Ytnhifinfjfpoiaa
open Go.RowKit
set_option linter.unusedVariables false
set_option linter.unusedSimpArgs false

theorem within_yes {n a b : Int} (h1 : a ≤ n) (h2 : n ≤ b) (w : World) :
    Calls Try.prog 74 #[.int .i64 n, .agg #[.int .i64 a, .int .i64 b]] w fun e w' => e = .returned (.bool true) ∧ Below w.heap.size w w' :=
  (within_any n a b w).mono fun e w' ⟨h3, h4⟩ => ⟨by rw [h3]; simp [h1, h2], by rw [← h4]; exact (Below.refl _ _).alloc (Nat.le_refl _) _⟩
theorem found_err {c : Col} (hk : fitErr c = 0) (x : Int) : fitsErr c (findT c x) (findL c x) = 0 := by
  have h1 := (fit_parts hk).1
  unfold fitsErr
  rw [if_pos h1, if_pos ⟨by rw [findT_len, needsC_mul], findL_len c x, allB_true fun i hi => by rw [findT_len] at hi; rw [findT_row hi]; simp⟩]
/-- Numbers of a truth are small. -/
theorem fits_small {c : Col} (ok : OkCol c) {T : List (List Int)} {L : List Int} (F : FitsP c T L) {j : Nat} (hj : j < c.rooms.length) : (∀ k, k < (needsC c).length → 0 ≤ nth (nthR T k) j ∧ nth (nthR T k) j ≤ 1000) ∧ 0 ≤ nth L j ∧ nth L j ≤ 1000 := by
  have d := ok.rooms6 j (by have := ok.houses.2; omega)
  have a := F.col j hj
  have b := (F.left j hj).1
  have e := sumN_nonneg (f := fun k => nth (nthR T k) j) (n := (needsC c).length) (fun k hk => (F.cell k hk j hj).1)
  refine ⟨fun k hk => ?_, b, by omega⟩
  have g := sumN_ge (f := fun k => nth (nthR T k) j) (n := (needsC c).length) (k := k) (fun k hk => (F.cell k hk j hj).1) hk
  have f := (F.cell k hk j hj).1
  constructor
  · exact f
  · have : nth (nthR T k) j ≤ sumN (fun k => nth (nthR T k) j) (needsC c).length := g
    omega
/-- A truth of so many rows of so many numbers. -/
structure TruthIs (c : Col) (T : List (List Int)) (L : List Int) : Prop where
  fits : FitsP c T L
  len : T.length = (needsC c).length
  row : ∀ k, k < T.length → (nthR T k).length = c.rooms.length
  left : L.length = c.rooms.length
theorem found_truth {c : Col} (hk : fitErr c = 0) {x : Int} (hx : 0 ≤ x) : TruthIs c (findT c x) (findL c x) :=
  ⟨find_fits hk hx, findT_len c x, fun k hkl => by rw [findT_len] at hkl; rw [findT_row hkl]; simp, findL_len c x⟩
theorem count_of {c : Col} {T : List (List Int)} {L : List Int} (k : TruthIs c T L) (hk : checkC c = 0) (tv lv : Value) (w : World) (ht : IsRows w w.heap.size tv T) (hl : IsInts w w.heap.size lv L) :
    Calls Try.prog 69 #[.agg #[tv, lv]] w fun e w' => e = .returned (.int .i64 (countT T L c.rooms.length (needsC c).length)) ∧ Below w.heap.size w w' := by
  have ok := okCol_of hk
  have hn := ok.houses.2
  have hm : (needsC c).length ≤ 36 := by
    rw [needsC_mul]
    have := Nat.mul_le_mul hn ok.nights
    omega
  have := count_any T L c.rooms.length tv lv w ht hl (by rw [k.len]; omega) k.left (by omega) k.row (fun h hh => (fits_small ok k.fits hh).2) (fun i h hi hh => (fits_small ok k.fits hh).1 i (by rw [← k.len]; exact hi))
  rw [k.len] at this
  exact this
theorem from_of {c : Col} {T : List (List Int)} {L : List Int} (k : TruthIs c T L) (hk : checkC c = 0) {h : Nat} (hh : h < c.rooms.length) (tv lv : Value) (w : World) (ht : IsRows w w.heap.size tv T) (hl : IsInts w w.heap.size lv L) :
    Calls Try.prog 75 #[.agg #[tv, lv], .int .i64 h] w fun e w' => e = .returned (.int .i64 (fromT T L h (needsC c).length)) ∧ Below w.heap.size w w' := by
  have ok := okCol_of hk
  have hn := ok.houses.2
  have hm : (needsC c).length ≤ 36 := by
    rw [needsC_mul]
    have := Nat.mul_le_mul hn ok.nights
    omega
  have := from_any T L c.rooms.length h tv lv w ht hl (by rw [k.len]; omega) k.row k.left hh (fits_small ok k.fits hh).2 (fun i hi => (fits_small ok k.fits hh).1 i (by rw [← k.len]; exact hi))
  rw [k.len] at this
  exact this
def Box2x (b1 b2 : Nat) (x y u v : Value) (W : World) : Prop := W.cell? ⟨b1, 0, none⟩ = some x ∧ W.cell? ⟨b1, 1, none⟩ = some y ∧ W.cell? ⟨b2, 0, none⟩ = some u ∧ W.cell? ⟨b2, 1, none⟩ = some v
theorem Box2x.of {b1 b2 t1 t2 : Nat} {x y u v : Value} {W : World} (h : (pBlk b1 t1 #[x, y]).told W) (k : (pBlk b2 t2 #[u, v]).told W) : Box2x b1 b2 x y u v W := ⟨(two_at h).1, (two_at h).2, (two_at k).1, (two_at k).2⟩
/-- All cells that the last question reads. -/
def BoxEnd (b6 b26 b5 gr h bl ol ba oa b8 : Nat) (cv lv rv : Value) (slo shi rm lf af lo hi : Int) (W : World) : Prop :=
  W.cell? ⟨b6, 0, none⟩ = some cv ∧ W.cell? ⟨b6, 1, none⟩ = some lv ∧ W.cell? ⟨b26, 0, none⟩ = some (.int .i64 slo) ∧ W.cell? ⟨b26, 1, none⟩ = some (.int .i64 shi) ∧ W.cell? ⟨b5, 0, none⟩ = some rv ∧ W.cell? ⟨gr, h, none⟩ = some (.int .i64 rm) ∧ W.cell? ⟨bl, ol, none⟩ = some (.int .i64 lf) ∧ W.cell? ⟨ba, oa, none⟩ = some (.int .i64 af) ∧ W.cell? ⟨b8, 0, none⟩ = some (.int .i64 lo) ∧ W.cell? ⟨b8, 1, none⟩ = some (.int .i64 hi)
theorem BoxEnd.below {b6 b26 b5 gr h bl ol ba oa b8 : Nat} {cv lv rv : Value} {slo shi rm lf af lo hi : Int} {W W' : World} (k : BoxEnd b6 b26 b5 gr h bl ol ba oa b8 cv lv rv slo shi rm lf af lo hi W) (hb : Below W.heap.size W W') : BoxEnd b6 b26 b5 gr h bl ol ba oa b8 cv lv rv slo shi rm lf af lo hi W' := by
  have key : ∀ (b o : Nat) (v : Value), W.cell? ⟨b, o, none⟩ = some v → W'.cell? ⟨b, o, none⟩ = some v := fun b o v e => (hb.cell (p := ⟨b, o, none⟩) (block_lt_of_cell e)).trans e
  obtain ⟨h1, h2, h3, h4, h5, h6, h7, h8, h9, h10⟩ := k
  exact ⟨key _ _ _ h1, key _ _ _ h2, key _ _ _ h3, key _ _ _ h4, key _ _ _ h5, key _ _ _ h6, key _ _ _ h7, key _ _ _ h8, key _ _ _ h9, key _ _ _ h10⟩
def ctParts (b5 B : Nat) (r t u nn : Value) (n : Nat) (rooms traps : List Int) (rs : List (Int × Int)) (nb : Nat → Nat) (N : List (List Int)) (b6 : Nat) (cv lv : Value) (b8 : Nat) (lo hi : Int) : List Part :=
  [pBlk b5 26 #[r, t, u, nn], pRow B 3 1 n r (intsV rooms), pRow B 3 1 n t (intsV traps), pRow B 63 2 rs.length u (pairsV rs), pRows B n nn nb N, pBlk b6 55 #[cv, lv], pBlk b8 49 #[.int .i64 lo, .int .i64 hi]]

set_option maxRecDepth 100000 in
set_option maxHeartbeats 8000000 in
theorem ratCounted_any (v1 : Value) (xs1 : List Int) (w : World) (h1 : IsBytes w w.heap.size v1 xs1) :
    Calls Try.prog 15 #[v1] w fun e w' => e = .returned (.bool true) ∧ Below w.heap.size w w' := by
  have HB := Lib.hid h1
  clear h1
  go_enter Try.func15, Try.ntmps15
  go_wp2_with fail
  refine (fill_any v1 xs1 w HB.out).mono ?_
  rintro e w1 ⟨rfl, hc1, hb1, hz1⟩
  have HP1 := Lib.hid ((PW.start w).fill hc1 hb1)
  obtain ⟨p1, hp1⟩ : ∃ p1, w.heap.size = p1 := ⟨_, rfl⟩
  have hP1 := HP1.out
  rw [hp1] at hP1
  have HP1 := Lib.hid hP1
  rw [hp1]
  clear hc1 hb1 hz1 hP1 hp1
  go_wp2_with fail
  refine (made_any p1 v1 xs1 5 4 w1 (HP1.out.chute 0 rfl HB.out) (by omega) (by omega)).mono ?_
  rintro e w2 ⟨r, t, u, nv, cv, lv, fv, rooms, traps, rs, k, N, T, M, L, left, rfl, hI, hcol, hT, hL, hF, hc2, ht2, nbN, nbT, bL, Lf, rfl, hLf, hsep⟩
  have HI := Lib.hid hI
  have HP2 := Lib.hid (((HP1.out.made 0 rfl hc2 ht2 hsep).newBlk 26 #[r, t, u, nv]).newBlk 55 #[cv, .slice (some ⟨bL, 0, none⟩) rooms.length rooms.length])
  have hn0 : 0 < rooms.length := hI.made.many.1
  have hn5 : (rooms.length : Int) ≤ 5 := hI.few
  obtain ⟨ar, qr, rfl⟩ := owns_slice (hsep.at 0 rfl)
  obtain ⟨at_, qt, rfl⟩ := owns_slice (hsep.at 1 rfl)
  obtain ⟨au, qu, rfl⟩ := owns_slice (hsep.at 2 rfl)
  obtain ⟨⟨fsN, hoN, _⟩, _⟩ : (pRows w1.heap.size rooms.length nv nbN N).told w2 := hsep.at 3 rfl
  obtain ⟨⟨fsT, hoT, _⟩, _⟩ : (pRows w1.heap.size rooms.length cv nbT T).told w2 := hsep.at 4 rfl
  obtain ⟨an, qn, rfl⟩ := owns_slice hoN
  obtain ⟨ac, qc, rfl⟩ := owns_slice hoT
  obtain ⟨al, ql, rfl⟩ := owns_slice (hsep.at 6 rfl)
  have HC2 := Lib.hid hcol
  have HTL := Lib.hid (And.intro hT (And.intro hL hF))
  clear hI hcol hT hL hF hc2 ht2 hLf hsep hoN hoT
  go_wp2_with fail
  obtain ⟨W3, hW3⟩ : ∃ W3, (w2.alloc (.cells #[.slice ar rooms.length qr, .slice at_ rooms.length qt, .slice au rs.length qu, .slice an N.length qn] 26)).alloc (.cells #[.slice ac T.length qc, .slice (some ⟨bL, 0, none⟩) rooms.length rooms.length] 55) = W3 := ⟨_, rfl⟩
  obtain ⟨b5, hb5⟩ : ∃ b5, w2.heap.size = b5 := ⟨_, rfl⟩
  have hP2 := HP2.out
  have hcol3 : ColAt W3 W3.heap.size (.slice ar rooms.length qr) (.slice at_ rooms.length qt) (.slice au rs.length qu) (.slice an N.length qn) ⟨rooms, traps, rs, N⟩ := by
    rw [← hW3]
    exact (HC2.out.below (((Below.refl _ _).alloc (Nat.le_refl _) _).alloc (by simp) _) (Nat.le_refl _)).mono (by simp; omega)
  have hbt : Below w2.heap.size w2 W3 := by rw [← hW3]; exact ((Below.refl _ _).alloc (Nat.le_refl _) _).alloc (by simp) _
  have HTL3 := Lib.hid (And.intro ((HTL.out.1.below hbt (Nat.le_refl _)).mono hbt.size) (And.intro ((HTL.out.2.1.below hbt (Nat.le_refl _)).mono hbt.size) ((HTL.out.2.2.below hbt (Nat.le_refl _)).mono hbt.size)))
  rw [hW3, hb5] at hP2
  rw [hW3]
  have HP3 := Lib.hid hP2
  have HC3 := Lib.hid hcol3
  have hb6 : ∃ b6, w2.heap.size + 1 = b6 := ⟨_, rfl⟩
  obtain ⟨b6, hb6⟩ := hb6
  rw [hb5] at hb6
  rw [hb5]
  (try rw [hb6])
  have hs6 : (w2.alloc (.cells #[.slice ar rooms.length qr, .slice at_ rooms.length qt, .slice au rs.length qu, .slice an N.length qn] 26)).heap.size = b6 := by rw [World.size_alloc, hb5]; exact hb6
  have hP3 := HP3.out
  rw [hs6] at hP3
  have HP3 := Lib.hid hP3
  clear hW3 hP2 hcol3 HC2 HP2 hb5 HTL hbt hs6 hP3 hb6
  obtain ⟨gr, cr, er, hcr, _⟩ := int_row_cells (HP3.out.at 1 rfl) rfl hn0
  cases er
  obtain ⟨C, hCe⟩ : ∃ C : Col, (⟨rooms, traps, rs, N⟩ : Col) = C := ⟨_, rfl⟩
  have hfe := HI.out.fitErr (by omega)
  have hck := HI.out.check (by omega)
  have hfp := HI.out.fits (by omega)
  rw [hCe] at hfe hck hfp HC3
  have HFE := Lib.hid hfe
  have HCK := Lib.hid hck
  have HCE := Lib.hid hCe
  have HRL : Hid (C.rooms = rooms) := by rw [← hCe]; exact rfl
  have HNL : Hid (C.nights = N) := by rw [← hCe]; exact rfl
  have HTI : Hid (TruthIs C T L) := ⟨hfp, by rw [needsC_mul, HRL.out, HNL.out, HI.out.caught.lenT, HI.out.caught.lenN, Nat.mul_comm], fun i hi => by rw [HRL.out]; exact HI.out.caught.rowT i (by rw [← HI.out.caught.lenT]; exact hi), by rw [HRL.out]; exact HI.out.lenL⟩
  have hfr : fitsErr C T L = 0 := by
    unfold fitsErr
    rw [if_pos hck, if_pos ⟨by rw [HTI.out.len, needsC_mul], HTI.out.left, allB_true fun i hi => by simpa using HTI.out.row i hi⟩]
  have HNB : Hid (∀ i j, i < N.length → j < rooms.length → 0 ≤ nth (nthR N i) j ∧ nth (nthR N i) j ≤ 3) := (HI.out.caught.cells HI.out.made.trapB).1
  have HLL : Hid (left.length = rooms.length) := HI.out.lenLeft
  have HLI : Hid (∀ i, i < rooms.length → nth left i = sumN (M i) rooms.length) := HI.out.inLeft
  have HLX : Hid (∀ i, i < rooms.length → ∀ f, f < C.rooms.length → 0 ≤ M i f ∧ M i f ≤ nth L f ∧ (0 < M i f → (leftC C i).testBit f = true)) := fun i hi f hf => by
    rw [HRL.out] at hf
    refine ⟨HI.out.caught.pos i f hi hf, ?_, fun hp => ?_⟩
    · rw [HI.out.byL f hf]
      exact sumN_ge (f := fun i => M i f) (n := rooms.length) (k := i) (fun a ha => HI.out.caught.pos a f ha hf) hi
    · rw [left_bit (okCol_of hck) (by rw [HRL.out]; exact hi) (by rw [HRL.out]; exact hf), ← HCE.out]
      exact HI.out.ends.stay HI.out.caught hi hf hp
  have hNl : N.length ≤ 4 := by have := HI.out.caught.lenN; have := HI.out.nights; omega
  have H3 := Lib.hid (show CtAt w _ _ _ _ _ _ T L left [] [] W3 from ⟨HP3.out.pick (ps' := madeBox b5 w1.heap.size (.slice (some ⟨gr, 0, none⟩) rooms.length qr) (.slice at_ rooms.length qt) (.slice au rs.length qu) (.slice an N.length qn) rooms.length rooms traps rs nbN N ++ [pBlk b6 55 #[.slice ac T.length qc, .slice (some ⟨bL, 0, none⟩) rooms.length rooms.length]]) [8, 1, 2, 3, 4, 9] (by decide) rfl, HTL3.out.1, HTL3.out.2.1, HTL3.out.2.2, pairs_nil _ _, ints_nil _ _⟩)
  obtain ⟨lo, hlo⟩ : ∃ lo, (ratsC C).1 = lo := ⟨_, rfl⟩
  obtain ⟨hi, hhi⟩ : ∃ hi, (ratsC C).2 = hi := ⟨_, rfl⟩
  have hcw := count_within hfe hfp
  rw [hlo, hhi] at hcw
  have HLH := Lib.hid (And.intro hlo hhi)
  have HCW := Lib.hid hcw
  have HSL : Hid ((startsC C).length = rooms.length) := by rw [← hCe]; exact startsTo_len _ _
  have HAL : Hid ((afterC C).length = rooms.length) := by rw [← hCe]; exact afterTo_len _ _
  have HFR := Lib.hid hfr
  have HBD := Lib.hid (rats_bounds (okCol_of hck))
  rw [hlo, hhi] at HBD
  have HCOL : Hid (∀ W ps, PW w W ps → ps[1]? = some (pRow w1.heap.size 3 1 rooms.length (.slice (some ⟨gr, 0, none⟩) rooms.length qr) (intsV rooms)) → ps[2]? = some (pRow w1.heap.size 3 1 rooms.length (.slice at_ rooms.length qt) (intsV traps)) → ps[3]? = some (pRow w1.heap.size 63 2 rs.length (.slice au rs.length qu) (pairsV rs)) → ps[4]? = some (pRows w1.heap.size rooms.length (.slice an N.length qn) nbN N) → ColAt W W.heap.size (.slice (some ⟨gr, 0, none⟩) rooms.length qr) (.slice at_ rooms.length qt) (.slice au rs.length qu) (.slice an N.length qn) C) := fun W ps H e2 e3 e4 e5 => by
    rw [← HCE.out]
    exact made_read (by rw [HCE.out]; exact HCK.out) rfl (H.at 1 e2) (H.at 2 e3) (H.at 3 e4) (H.at 4 e5)
  have HRM := Lib.hid HI.out.made.roomB
  clear hCe hfe hck hfp hfr hcw hlo hhi HP3 HP1 HI HTL3 HC3
  refine (Fits_ok C _ _ _ _ _ _ T L W3 (HCOL.out _ _ H3.out.pw rfl rfl rfl rfl) H3.out.rows H3.out.left HFR.out).mono ?_
  rintro e w4 ⟨b, rfl, hb, hb4⟩
  obtain rfl : b = true := hb.2 HTI.out.fits
  have H4 := Lib.hid (H3.out.below hb4)
  obtain ⟨k0, k1, k2, k3⟩ := four_at (H4.out.pw.at 0 rfl)
  clear hb hb4 H3
  go_wp2_with fail
  generalize Value.tuple #[Value.agg _, _, _] = q27
  refine (Rats_ok C _ _ _ _ w4 (HCOL.out _ _ H4.out.pw rfl rfl rfl rfl) HFE.out).mono ?_
  rintro e w5 ⟨rfl, hb5⟩
  rw [HLH.out.1, HLH.out.2]
  have H5 := Lib.hid ((H4.out.below hb5).newBlk 49 #[.int .i64 lo, .int .i64 hi])
  clear hb5 H4 k0 k1 k2 k3
  go_upto_region 4 with (fail)
  obtain ⟨W5, hW5⟩ : ∃ W5, w5.alloc (.cells #[.int .i64 lo, .int .i64 hi] 49) = W5 := ⟨_, rfl⟩
  obtain ⟨b8, hb8⟩ : ∃ b8, w5.heap.size = b8 := ⟨_, rfl⟩
  have h5 := H5.out
  rw [hW5, hb8] at h5
  rw [hW5, hb8]
  have H5 := Lib.hid (h5.same (qs := ctParts b5 w1.heap.size (.slice (some ⟨gr, 0, none⟩) rooms.length qr) (.slice at_ rooms.length qt) (.slice au rs.length qu) (.slice an N.length qn) rooms.length rooms traps rs nbN N b6 (.slice ac T.length qc) (.slice (some ⟨bL, 0, none⟩) rooms.length rooms.length) b8 lo hi) rfl)
  clear hW5 hb8 h5
  obtain ⟨k0, k1, k2, k3⟩ := four_at (H5.out.pw.at 0 rfl)
  go_wp2_with fail
  refine (Starts_ok C _ _ _ _ W5 (HCOL.out _ _ H5.out.pw rfl rfl rfl rfl) HFE.out).mono ?_
  rintro e w6 ⟨sv, rfl, hs6, hb6⟩
  obtain ⟨as_, qs, rfl, _, _, _⟩ := hs6.open
  rw [HSL.out] at hs6 ⊢
  have h6 := H5.out.below hb6
  have H6 := Lib.hid (show CtAt w _ _ _ _ _ _ T L left _ _ w6 from ⟨h6.pw, h6.rows, h6.left, h6.inl, hs6, h6.after⟩)
  clear hs6 hb6 h6 H5 k0 k1 k2 k3
  obtain ⟨k0, k1, k2, k3⟩ := four_at (H6.out.pw.at 0 rfl)
  go_wp2_with fail
  refine (After_ok C _ _ _ _ w6 (HCOL.out _ _ H6.out.pw rfl rfl rfl rfl) HFE.out).mono ?_
  rintro e w7 ⟨av, rfl, hs7, hb7⟩
  obtain ⟨aa, qa, rfl, _, _, _⟩ := hs7.open
  rw [HAL.out] at hs7 ⊢
  have h7 := H6.out.below hb7
  have H7 := Lib.hid (show CtAt w _ _ _ _ _ _ T L left _ _ w7 from ⟨h7.pw, h7.rows, h7.left, h7.inl, h7.starts, hs7⟩)
  clear hs7 hb7 h7 H6 k0 k1 k2 k3
  obtain ⟨k0, k1, k2, k3⟩ := four_at (H7.out.pw.at 0 rfl)
  go_wp2_with fail
  refine (check_any C _ _ _ _ w7 (HCOL.out _ _ H7.out.pw rfl rfl rfl rfl)).mono ?_
  rintro e w8 ⟨rfl, hb8⟩
  rw [HCK.out]
  have H8 := Lib.hid (H7.out.below hb8)
  clear hb8 H7 k0 k1 k2 k3
  obtain ⟨k0, k1, k2, k3⟩ := four_at (H8.out.pw.at 0 rfl)
  go_wp2_with fail
  clear k0 k1 k2 k3
  go_loopw [14, 97] (fun sv i wq => ∃ k : Nat, k ≤ N.length ∧ i = .int .i64 k ∧ sv = .int .i64 (sumN (fun i => sumN (nth (nthR N i)) rooms.length) k) ∧ w8 = wq) (fun _ i _ => N.length - (intOf i).toNat)
  case atStart => exact ⟨0, Nat.zero_le _, rfl, rfl, rfl⟩
  case round =>
    obtain ⟨k, hk, rfl, rfl, rfl⟩ := hrel
    by_cases hkn : k < N.length
    · have hki : (k : Int) < N.length := by omega
      obtain ⟨b9, c9, e9, hc9, m1, hB⟩ := rows_at' (H8.out.pw.at 4 rfl) hkn
      subst e9
      have hsb : ∀ i, i < N.length → 0 ≤ sumN (nth (nthR N i)) rooms.length ∧ sumN (nth (nthR N i)) rooms.length ≤ 3 * rooms.length := fun i hi => ⟨sumN_nonneg fun j hj => (HNB.out i j hi hj).1, sumN_bound fun j hj => (HNB.out i j hi hj).2⟩
      have hs1 := hsb k hkn
      have hs2 : 0 ≤ sumN (fun i => sumN (nth (nthR N i)) rooms.length) k := sumN_nonneg fun i hi => (hsb i (by omega)).1
      have hs3 : sumN (fun i => sumN (nth (nthR N i)) rooms.length) k ≤ 18 * k := sumN_bound fun i hi => by have := (hsb i (by omega)).2; omega
      have HB9 := Lib.hid hB
      obtain ⟨sk, hsk⟩ : ∃ sk, sumN (fun i => sumN (nth (nthR N i)) rooms.length) k = sk := ⟨_, rfl⟩
      obtain ⟨rk, hrk⟩ : ∃ rk, sumN (nth (nthR N k)) rooms.length = rk := ⟨_, rfl⟩
      rw [hsk] at hs2 hs3
      rw [hrk] at hs1
      rw [hsk]
      have HSK := Lib.hid (And.intro hsk hrk)
      have hwk : IntKind.i64.wrap (sk + rk) = sk + rk := by rw [IntKind.wrap_i64]; omega
      clear hB hsb hsk hrk
      go_wp2_with fail
      refine (total_any (nbN k) rooms.length c9 (nth (nthR N k)) w8 HB9.out (by omega) (fun j hj => by have := HNB.out k j hkn hj; omega)).mono ?_
      rintro e w11 ⟨rfl, rfl⟩
      rw [sumT_eq, HSK.out.2]
      go_wp2_with fail
      go_roundw
      case rel => exact ⟨k + 1, by omega, by go_num, by rw [sumN_succ, HSK.out.1, HSK.out.2], by simp⟩
      case measure => simp [intOf]; omega
    · obtain rfl : k = N.length := by omega
      have hts : sumN (fun i => sumN (nth (nthR N i)) rooms.length) N.length = lo := by
        have := tot_sum C
        rw [HNL.out, HRL.out, ← HCW.out.1] at this
        exact this.symm
      rw [hts]
      clear hts
      go_upto_region 14 with (fail)
      obtain ⟨ct, hct⟩ : ∃ ct, countT T L C.rooms.length (needsC C).length = ct := ⟨_, rfl⟩
      have hcb : lo ≤ ct ∧ ct ≤ hi := by rw [← hct]; have := HCW.out; omega
      have HCT := Lib.hid hct
      have HCB := Lib.hid hcb
      clear hct hcb
      have hC : Box2x b6 b8 (.slice ac T.length qc) (.slice (some ⟨bL, 0, none⟩) rooms.length rooms.length) (.int .i64 lo) (.int .i64 hi) w8.drew := Box2x.of (H8.out.pw.drew.at 5 rfl) (H8.out.pw.drew.at 6 rfl)
      refine wp_region_noPanic ?_
      refine anyL_start (S := Till [] (Box2x b6 b8 (.slice ac T.length qc) (.slice (some ⟨bL, 0, none⟩) rooms.length rooms.length) (.int .i64 lo) (.int .i64 hi))) (by kernel_rfl) (fun _ => hC) (fun hT => ?_)
      refine takeL0 (i := 0) (d := 106) (v := ?_) rfl rfl (by kernel_rfl) (by kernel_rfl) (by kernel_rfl) (by kernel_rfl) (fun _ _ _ _ _ h => h) (by rfl) ?_ (fun _ => hC) ?_
      rotate_left
      · intro w
        go_simp
        try with_reducible rfl
      (try simp only [Act.put, List.setIfInBounds_toArray, List.set_cons_zero, List.set_cons_succ])
      refine takeL0 (i := 2) (d := 108) (v := ?_) rfl rfl (by kernel_rfl) (by kernel_rfl) (by kernel_rfl) (by kernel_rfl) (fun _ _ _ _ _ h => h) (by rfl) ?_ (fun _ => hC) ?_
      rotate_left
      · intro w
        go_simp
        try with_reducible rfl
      (try simp only [Act.put, List.setIfInBounds_toArray, List.set_cons_zero, List.set_cons_succ])
      refine takeL (i := 1) (d := 107) (v := ?_) rfl rfl (by kernel_rfl) (by kernel_rfl) (by kernel_rfl) (by kernel_rfl) (by kernel_rfl) (by kernel_rfl) (fun _ _ _ _ _ h => h) (by rfl) ?_ hC ?_
      rotate_left
      · intro w hSw
        (try dsimp only at hSw)
        obtain ⟨hS0, hS1, hS2, hS3⟩ := hSw
        go_simp
        try with_reducible rfl
      (try simp only [Act.put, List.setIfInBounds_toArray, List.set_cons_zero, List.set_cons_succ])
      refine takeL0 (i := 3) (d := 109) (v := ?_) rfl rfl (by kernel_rfl) (by kernel_rfl) (by kernel_rfl) (by kernel_rfl) (fun _ _ _ _ _ h => h) (by rfl) ?_ (fun _ => hC) ?_
      rotate_left
      · intro w
        go_simp
        try with_reducible rfl
      (try simp only [Act.put, List.setIfInBounds_toArray, List.set_cons_zero, List.set_cons_succ])
      refine takeL0 (i := 4) (d := 110) (v := ?_) rfl rfl (by kernel_rfl) (by kernel_rfl) (by kernel_rfl) (by kernel_rfl) (fun _ _ _ _ _ h => h) (by rfl) ?_ (fun _ => hC) ?_
      rotate_left
      · intro w
        go_simp
        try with_reducible rfl
      (try simp only [Act.put, List.setIfInBounds_toArray, List.set_cons_zero, List.set_cons_succ])
      refine takeL (i := 5) (d := 111) (v := ?_) rfl rfl (by kernel_rfl) (by kernel_rfl) (by kernel_rfl) (by kernel_rfl) (by kernel_rfl) (by kernel_rfl) (fun _ _ _ _ _ h => h) (by rfl) ?_ hC ?_
      rotate_left
      · intro w hSw
        (try dsimp only at hSw)
        obtain ⟨hS0, hS1, hS2, hS3⟩ := hSw
        go_simp
        try with_reducible rfl
      (try simp only [Act.put, List.setIfInBounds_toArray, List.set_cons_zero, List.set_cons_succ])
      refine takeL (i := 7) (d := 113) (v := ?_) rfl rfl (by kernel_rfl) (by kernel_rfl) (by kernel_rfl) (by kernel_rfl) (by kernel_rfl) (by kernel_rfl) (fun _ _ _ _ _ h => h) (by rfl) ?_ hC ?_
      rotate_left
      · intro w hSw
        (try dsimp only at hSw)
        obtain ⟨hS0, hS1, hS2, hS3⟩ := hSw
        go_simp
        try with_reducible rfl
      (try simp only [Act.put, List.setIfInBounds_toArray, List.set_cons_zero, List.set_cons_succ])
      refine nextW (i := 6) rfl (by kernel_rfl) (by rfl) (fun K hK => ?_)
      go_simp
      refine (count_of HTI.out HCK.out _ _ w8.drew H8.out.drew.rows H8.out.drew.left).mono ?_
      rintro e w9 ⟨rfl, hb9⟩
      rw [HCT.out]
      have H9 := Lib.hid (H8.out.drew.below hb9)
      clear hC hb9
      have hC : Box2x b6 b8 (.slice ac T.length qc) (.slice (some ⟨bL, 0, none⟩) rooms.length rooms.length) (.int .i64 lo) (.int .i64 hi) w9 := Box2x.of (H9.out.pw.at 5 rfl) (H9.out.pw.at 6 rfl)
      go_simp
      refine hK.out _ _ (fun _ => hC) ?_
      clear hK K
      (try simp only [Act.put, List.setIfInBounds_toArray, List.set_cons_zero, List.set_cons_succ])
      refine nextW (i := 8) rfl (by kernel_rfl) (by rfl) (fun K hK => ?_)
      go_simp
      refine (within_yes HCB.out.1 HCB.out.2 w9).mono ?_
      rintro e w10 ⟨rfl, hb10⟩
      have H10 := Lib.hid (H9.out.below hb10)
      clear hC hb10
      have hC : Box2x b6 b8 (.slice ac T.length qc) (.slice (some ⟨bL, 0, none⟩) rooms.length rooms.length) (.int .i64 lo) (.int .i64 hi) w10 := Box2x.of (H10.out.pw.at 5 rfl) (H10.out.pw.at 6 rfl)
      go_simp
      refine hK.out _ _ (fun _ => hC) ?_
      clear hK K
      (try simp only [Act.put, List.setIfInBounds_toArray, List.set_cons_zero, List.set_cons_succ])
      refine takeL0 (i := 9) (d := 115) (v := ?_) rfl rfl (by kernel_rfl) (by kernel_rfl) (by kernel_rfl) (by kernel_rfl) (fun _ _ _ _ _ h => h) (by rfl) ?_ (fun _ => hC) ?_
      rotate_left
      · intro w
        go_simp
        try with_reducible rfl
      (try simp only [Act.put, List.setIfInBounds_toArray, List.set_cons_zero, List.set_cons_succ])
      refine takeL0 (i := 10) (d := 116) (v := ?_) rfl rfl (by kernel_rfl) (by kernel_rfl) (by kernel_rfl) (by kernel_rfl) (fun _ _ _ _ _ h => h) (by rfl) ?_ (fun _ => hC) ?_
      rotate_left
      · intro w
        go_simp
        try with_reducible rfl
      (try simp only [Act.put, List.setIfInBounds_toArray, List.set_cons_zero, List.set_cons_succ])
      refine anyL_done (by kernel_rfl) ?_ _
      refine NoPanic.normal ?_
      clear hC hT H8 H9
      have H11 := Lib.hid (H10.out.newBlk 4 #[.bool false, .bool true])
      go_wp2_with fail
      obtain ⟨W11, hW11⟩ : ∃ W11, w10.alloc (.cells #[.bool false, .bool true] 4) = W11 := ⟨_, rfl⟩
      obtain ⟨bB, hbB⟩ : ∃ bB, w10.heap.size = bB := ⟨_, rfl⟩
      have h11 := H11.out
      rw [hW11, hbB] at h11
      rw [hW11, hbB]
      have H11 := Lib.hid h11
      clear hW11 hbB h11 H10
      go_loopw [119] (fun i wr => ∃ k : Nat, k ≤ 2 ∧ i = .int .i64 k ∧ Hid (CtAt w (ctParts b5 w1.heap.size (.slice (some ⟨gr, 0, none⟩) rooms.length qr) (.slice at_ rooms.length qt) (.slice au rs.length qu) (.slice an N.length qn) rooms.length rooms traps rs nbN N b6 (.slice ac T.length qc) (.slice (some ⟨bL, 0, none⟩) rooms.length rooms.length) b8 lo hi ++ [pBlk bB 4 #[.bool false, .bool true]]) (.slice ac T.length qc) (.slice (some ⟨bL, 0, none⟩) rooms.length rooms.length) (.slice al rooms.length ql) (.slice as_ rooms.length qs) (.slice aa rooms.length qa) T L left (startsC C) (afterC C) wr)) (fun i _ => 2 - (intOf i).toNat)
      case atStart => exact ⟨0, by omega, rfl, H11.out⟩
      case round =>
        obtain ⟨k, hk, rfl, HR⟩ := hrel
        by_cases hlt : k < 2
        · have kb := two_at (HR.out.pw.at 7 rfl)
          obtain ⟨k0, k1, k2, k3⟩ := four_at (HR.out.pw.at 0 rfl)
          clear H11
          rcases (show k = 0 ∨ k = 1 by omega) with rfl | rfl
          · rw [show ((0 : Nat) : Int) = 0 from rfl]
            go_wp2_with fail
            refine (Find_ok C _ _ _ _ false wr (HCOL.out _ _ HR.out.pw rfl rfl rfl rfl) HFE.out).mono ?_
            rintro e w9 ⟨ftv, flv, rfl, hft, hfl, hb9⟩
            obtain ⟨aft, qft, rfl, _, _, _⟩ := hft.open
            obtain ⟨afl, qfl, rfl, _, _, _⟩ := hfl.open
            rw [findT_len] at hft ⊢
            rw [findL_len, HRL.out] at hfl ⊢
            have hba : Below w9.heap.size w9 (w9.alloc (.cells #[.slice aft (needsC C).length qft, .slice afl rooms.length qfl] 55)) := (Below.refl _ _).alloc (Nat.le_refl _) _
            have HF9 := Lib.hid (And.intro ((hft.below hba (Nat.le_refl _)).mono hba.size) ((hfl.below hba (Nat.le_refl _)).mono hba.size))
            have H9 := Lib.hid ((HR.out.below hb9).newBlk 55 #[.slice aft (needsC C).length qft, .slice afl rooms.length qfl])
            clear hft hfl hb9 hba k0 k1 k2 k3 kb HR
            go_upto_region 20 with (fail)
            obtain ⟨W9, hW9⟩ : ∃ W9, w9.alloc (.cells #[.slice aft (needsC C).length qft, .slice afl rooms.length qfl] 55) = W9 := ⟨_, rfl⟩
            obtain ⟨b19, hb19⟩ : ∃ b19, w9.heap.size = b19 := ⟨_, rfl⟩
            have h9 := H9.out
            have hf9 := HF9.out
            rw [hW9, hb19] at h9
            rw [hW9] at hf9
            rw [hW9, hb19]
            have H9 := Lib.hid h9
            have HF9 := Lib.hid hf9
            have HFT := Lib.hid (found_truth HFE.out (x := moreX false) (by decide))
            clear hW9 hb19 h9 hf9
            obtain ⟨k0, k1, k2, k3⟩ := four_at (H9.out.pw.at 0 rfl)
            obtain ⟨j0, j1⟩ := two_at (H9.out.pw.at 8 rfl)
            go_wp2_with fail
            refine (Fits_ok C _ _ _ _ _ _ _ _ W9 (HCOL.out _ _ H9.out.pw rfl rfl rfl rfl) HF9.out.1 HF9.out.2 (found_err HFE.out _)).mono ?_
            rintro e w10 ⟨b, rfl, hb, hb10⟩
            obtain rfl : b = true := hb.2 HFT.out.fits
            have H10 := Lib.hid (H9.out.below hb10)
            have HF10 := Lib.hid (And.intro ((HF9.out.1.below hb10 (Nat.le_refl _)).mono hb10.size) ((HF9.out.2.below hb10 (Nat.le_refl _)).mono hb10.size))
            clear hb hb10 H9 HF9 k0 k1 k2 k3 j0 j1
            go_upto_region 21 with (fail)
            have hce : countT (findT C (moreX false)) (findL C (moreX false)) C.rooms.length (needsC C).length = lo := (find_count HFE.out (by decide)).trans ((find_least HFE.out).trans HLH.out.1)
            have HCEQ := Lib.hid hce
            clear hce
            have hC : Box2x b19 b8 (.slice aft (needsC C).length qft) (.slice afl rooms.length qfl) (.int .i64 lo) (.int .i64 hi) w10.drew := Box2x.of (H10.out.pw.drew.at 8 rfl) (H10.out.pw.drew.at 6 rfl)
            refine wp_region_noPanic ?_
            refine anyL_start (S := Till [] (Box2x b19 b8 (.slice aft (needsC C).length qft) (.slice afl rooms.length qfl) (.int .i64 lo) (.int .i64 hi))) (by kernel_rfl) (fun _ => hC) (fun hT => ?_)
            refine takeL0 (i := 0) (d := 135) (v := ?_) rfl rfl (by kernel_rfl) (by kernel_rfl) (by kernel_rfl) (by kernel_rfl) (fun _ _ _ _ _ h => h) (by rfl) ?_ (fun _ => hC) ?_
            rotate_left
            · intro w
              go_simp
              try with_reducible rfl
            (try simp only [Act.put, List.setIfInBounds_toArray, List.set_cons_zero, List.set_cons_succ])
            refine takeL0 (i := 1) (d := 136) (v := ?_) rfl rfl (by kernel_rfl) (by kernel_rfl) (by kernel_rfl) (by kernel_rfl) (fun _ _ _ _ _ h => h) (by rfl) ?_ (fun _ => hC) ?_
            rotate_left
            · intro w
              go_simp
              try with_reducible rfl
            (try simp only [Act.put, List.setIfInBounds_toArray, List.set_cons_zero, List.set_cons_succ])
            refine takeL0 (i := 2) (d := 137) (v := ?_) rfl rfl (by kernel_rfl) (by kernel_rfl) (by kernel_rfl) (by kernel_rfl) (fun _ _ _ _ _ h => h) (by rfl) ?_ (fun _ => hC) ?_
            rotate_left
            · intro w
              go_simp
              try with_reducible rfl
            (try simp only [Act.put, List.setIfInBounds_toArray, List.set_cons_zero, List.set_cons_succ])
            refine takeL0 (i := 3) (d := 138) (v := ?_) rfl rfl (by kernel_rfl) (by kernel_rfl) (by kernel_rfl) (by kernel_rfl) (fun _ _ _ _ _ h => h) (by rfl) ?_ (fun _ => hC) ?_
            rotate_left
            · intro w
              go_simp
              try with_reducible rfl
            (try simp only [Act.put, List.setIfInBounds_toArray, List.set_cons_zero, List.set_cons_succ])
            refine takeL0 (i := 4) (d := 139) (v := ?_) rfl rfl (by kernel_rfl) (by kernel_rfl) (by kernel_rfl) (by kernel_rfl) (fun _ _ _ _ _ h => h) (by rfl) ?_ (fun _ => hC) ?_
            rotate_left
            · intro w
              go_simp
              try with_reducible rfl
            (try simp only [Act.put, List.setIfInBounds_toArray, List.set_cons_zero, List.set_cons_succ])
            refine takeL0 (i := 5) (d := 140) (v := ?_) rfl rfl (by kernel_rfl) (by kernel_rfl) (by kernel_rfl) (by kernel_rfl) (fun _ _ _ _ _ h => h) (by rfl) ?_ (fun _ => hC) ?_
            rotate_left
            · intro w
              go_simp
              try with_reducible rfl
            (try simp only [Act.put, List.setIfInBounds_toArray, List.set_cons_zero, List.set_cons_succ])
            refine takeL0 (i := 6) (d := 141) (v := ?_) rfl rfl (by kernel_rfl) (by kernel_rfl) (by kernel_rfl) (by kernel_rfl) (fun _ _ _ _ _ h => h) (by rfl) ?_ (fun _ => hC) ?_
            rotate_left
            · intro w
              go_simp
              try with_reducible rfl
            (try simp only [Act.put, List.setIfInBounds_toArray, List.set_cons_zero, List.set_cons_succ])
            refine takeL0 (i := 7) (d := 142) (v := ?_) rfl rfl (by kernel_rfl) (by kernel_rfl) (by kernel_rfl) (by kernel_rfl) (fun _ _ _ _ _ h => h) (by rfl) ?_ (fun _ => hC) ?_
            rotate_left
            · intro w
              go_simp
              try with_reducible rfl
            (try simp only [Act.put, List.setIfInBounds_toArray, List.set_cons_zero, List.set_cons_succ])
            refine takeL0 (i := 8) (d := 143) (v := ?_) rfl rfl (by kernel_rfl) (by kernel_rfl) (by kernel_rfl) (by kernel_rfl) (fun _ _ _ _ _ h => h) (by rfl) ?_ (fun _ => hC) ?_
            rotate_left
            · intro w
              go_simp
              try with_reducible rfl
            (try simp only [Act.put, List.setIfInBounds_toArray, List.set_cons_zero, List.set_cons_succ])
            refine takeL0 (i := 9) (d := 144) (v := ?_) rfl rfl (by kernel_rfl) (by kernel_rfl) (by kernel_rfl) (by kernel_rfl) (fun _ _ _ _ _ h => h) (by rfl) ?_ (fun _ => hC) ?_
            rotate_left
            · intro w
              go_simp
              try with_reducible rfl
            (try simp only [Act.put, List.setIfInBounds_toArray, List.set_cons_zero, List.set_cons_succ])
            refine takeL0 (i := 10) (d := 145) (v := ?_) rfl rfl (by kernel_rfl) (by kernel_rfl) (by kernel_rfl) (by kernel_rfl) (fun _ _ _ _ _ h => h) (by rfl) ?_ (fun _ => hC) ?_
            rotate_left
            · intro w
              go_simp
              try with_reducible rfl
            (try simp only [Act.put, List.setIfInBounds_toArray, List.set_cons_zero, List.set_cons_succ])
            refine takeL0 (i := 11) (d := 146) (v := ?_) rfl rfl (by kernel_rfl) (by kernel_rfl) (by kernel_rfl) (by kernel_rfl) (fun _ _ _ _ _ h => h) (by rfl) ?_ (fun _ => hC) ?_
            rotate_left
            · intro w
              go_simp
              try with_reducible rfl
            (try simp only [Act.put, List.setIfInBounds_toArray, List.set_cons_zero, List.set_cons_succ])
            refine takeL0 (i := 12) (d := 147) (v := ?_) rfl rfl (by kernel_rfl) (by kernel_rfl) (by kernel_rfl) (by kernel_rfl) (fun _ _ _ _ _ h => h) (by rfl) ?_ (fun _ => hC) ?_
            rotate_left
            · intro w
              go_simp
              try with_reducible rfl
            (try simp only [Act.put, List.setIfInBounds_toArray, List.set_cons_zero, List.set_cons_succ])
            refine skipL (i := 13) (d := 148) rfl rfl (by kernel_rfl) (by kernel_rfl) (by kernel_rfl) (by kernel_rfl) (fun _ _ _ _ _ h => h) (by rfl) (fun _ => hC) ?_
            (try simp only [Act.put, List.setIfInBounds_toArray, List.set_cons_zero, List.set_cons_succ])
            refine skipL (i := 14) (d := 149) rfl rfl (by kernel_rfl) (by kernel_rfl) (by kernel_rfl) (by kernel_rfl) (fun _ _ _ _ _ h => h) (by rfl) (fun _ => hC) ?_
            (try simp only [Act.put, List.setIfInBounds_toArray, List.set_cons_zero, List.set_cons_succ])
            refine skipL (i := 15) (d := 150) rfl rfl (by kernel_rfl) (by kernel_rfl) (by kernel_rfl) (by kernel_rfl) (fun _ _ _ _ _ h => h) (by rfl) (fun _ => hC) ?_
            (try simp only [Act.put, List.setIfInBounds_toArray, List.set_cons_zero, List.set_cons_succ])
            refine skipL (i := 16) (d := 151) rfl rfl (by kernel_rfl) (by kernel_rfl) (by kernel_rfl) (by kernel_rfl) (fun _ _ _ _ _ h => h) (by rfl) (fun _ => hC) ?_
            (try simp only [Act.put, List.setIfInBounds_toArray, List.set_cons_zero, List.set_cons_succ])
            refine skipL (i := 17) (d := 152) rfl rfl (by kernel_rfl) (by kernel_rfl) (by kernel_rfl) (by kernel_rfl) (fun _ _ _ _ _ h => h) (by rfl) (fun _ => hC) ?_
            (try simp only [Act.put, List.setIfInBounds_toArray, List.set_cons_zero, List.set_cons_succ])
            refine takeL0 (i := 18) (d := 153) (v := ?_) rfl rfl (by kernel_rfl) (by kernel_rfl) (by kernel_rfl) (by kernel_rfl) (fun _ _ _ _ _ h => h) (by rfl) ?_ (fun _ => hC) ?_
            rotate_left
            · intro w
              go_simp
              try with_reducible rfl
            (try simp only [Act.put, List.setIfInBounds_toArray, List.set_cons_zero, List.set_cons_succ])
            refine takeL0 (i := 19) (d := 154) (v := ?_) rfl rfl (by kernel_rfl) (by kernel_rfl) (by kernel_rfl) (by kernel_rfl) (fun _ _ _ _ _ h => h) (by rfl) ?_ (fun _ => hC) ?_
            rotate_left
            · intro w
              go_simp
              try with_reducible rfl
            (try simp only [Act.put, List.setIfInBounds_toArray, List.set_cons_zero, List.set_cons_succ])
            refine takeL0 (i := 20) (d := 155) (v := ?_) rfl rfl (by kernel_rfl) (by kernel_rfl) (by kernel_rfl) (by kernel_rfl) (fun _ _ _ _ _ h => h) (by rfl) ?_ (fun _ => hC) ?_
            rotate_left
            · intro w
              go_simp
              try with_reducible rfl
            (try simp only [Act.put, List.setIfInBounds_toArray, List.set_cons_zero, List.set_cons_succ])
            refine takeL0 (i := 21) (d := 156) (v := ?_) rfl rfl (by kernel_rfl) (by kernel_rfl) (by kernel_rfl) (by kernel_rfl) (fun _ _ _ _ _ h => h) (by rfl) ?_ (fun _ => hC) ?_
            rotate_left
            · intro w
              go_simp
              try with_reducible rfl
            (try simp only [Act.put, List.setIfInBounds_toArray, List.set_cons_zero, List.set_cons_succ])
            refine takeL0 (i := 22) (d := 157) (v := ?_) rfl rfl (by kernel_rfl) (by kernel_rfl) (by kernel_rfl) (by kernel_rfl) (fun _ _ _ _ _ h => h) (by rfl) ?_ (fun _ => hC) ?_
            rotate_left
            · intro w
              go_simp
              try with_reducible rfl
            (try simp only [Act.put, List.setIfInBounds_toArray, List.set_cons_zero, List.set_cons_succ])
            refine takeL0 (i := 23) (d := 158) (v := ?_) rfl rfl (by kernel_rfl) (by kernel_rfl) (by kernel_rfl) (by kernel_rfl) (fun _ _ _ _ _ h => h) (by rfl) ?_ (fun _ => hC) ?_
            rotate_left
            · intro w
              go_simp
              try with_reducible rfl
            (try simp only [Act.put, List.setIfInBounds_toArray, List.set_cons_zero, List.set_cons_succ])
            refine takeL0 (i := 26) (d := 161) (v := ?_) rfl rfl (by kernel_rfl) (by kernel_rfl) (by kernel_rfl) (by kernel_rfl) (fun _ _ _ _ _ h => h) (by rfl) ?_ (fun _ => hC) ?_
            rotate_left
            · intro w
              go_simp
              try with_reducible rfl
            (try simp only [Act.put, List.setIfInBounds_toArray, List.set_cons_zero, List.set_cons_succ])
            refine takeL (i := 24) (d := 159) (v := ?_) rfl rfl (by kernel_rfl) (by kernel_rfl) (by kernel_rfl) (by kernel_rfl) (by kernel_rfl) (by kernel_rfl) (fun _ _ _ _ _ h => h) (by rfl) ?_ hC ?_
            rotate_left
            · intro w hSw
              (try dsimp only at hSw)
              obtain ⟨hS0, hS1, hS2, hS3⟩ := hSw
              go_simp
              try with_reducible rfl
            (try simp only [Act.put, List.setIfInBounds_toArray, List.set_cons_zero, List.set_cons_succ])
            refine takeL (i := 27) (d := 162) (v := ?_) rfl rfl (by kernel_rfl) (by kernel_rfl) (by kernel_rfl) (by kernel_rfl) (by kernel_rfl) (by kernel_rfl) (fun _ _ _ _ _ h => h) (by rfl) ?_ hC ?_
            rotate_left
            · intro w hSw
              (try dsimp only at hSw)
              obtain ⟨hS0, hS1, hS2, hS3⟩ := hSw
              go_simp
              try with_reducible rfl
            (try simp only [Act.put, List.setIfInBounds_toArray, List.set_cons_zero, List.set_cons_succ])
            refine nextW (i := 25) rfl (by kernel_rfl) (by rfl) (fun K hK => ?_)
            go_simp
            refine (count_of HFT.out HCK.out _ _ w10.drew HF10.out.1 HF10.out.2).mono ?_
            rintro e w11 ⟨rfl, hb11'⟩
            have hb11 : Below w10.heap.size w10 w11 := ((Below.refl _ w10).drew).trans hb11'
            rw [HCEQ.out]
            have H11 := Lib.hid (H10.out.below hb11)
            have HF11 := Lib.hid (And.intro ((HF10.out.1.below hb11 (Nat.le_refl _)).mono hb11.size) ((HF10.out.2.below hb11 (Nat.le_refl _)).mono hb11.size))
            clear hC hb11 hb11'
            have hC : Box2x b19 b8 (.slice aft (needsC C).length qft) (.slice afl rooms.length qfl) (.int .i64 lo) (.int .i64 hi) w11 := Box2x.of (H11.out.pw.at 8 rfl) (H11.out.pw.at 6 rfl)
            go_simp
            refine hK.out _ _ (fun _ => hC) ?_
            clear hK K
            (try simp only [Act.put, List.setIfInBounds_toArray, List.set_cons_zero, List.set_cons_succ])
            refine takeL0 (i := 28) (d := 163) (v := ?_) rfl rfl (by kernel_rfl) (by kernel_rfl) (by kernel_rfl) (by kernel_rfl) (fun _ _ _ _ _ h => h) (by rfl) ?_ (fun _ => hC) ?_
            rotate_left
            · intro w
              go_simp
              try with_reducible rfl
            (try simp only [Act.put, List.setIfInBounds_toArray, List.set_cons_zero, List.set_cons_succ])
            refine takeL0 (i := 29) (d := 164) (v := ?_) rfl rfl (by kernel_rfl) (by kernel_rfl) (by kernel_rfl) (by kernel_rfl) (fun _ _ _ _ _ h => h) (by rfl) ?_ (fun _ => hC) ?_
            rotate_left
            · intro w
              go_simp
              try with_reducible rfl
            (try simp only [Act.put, List.setIfInBounds_toArray, List.set_cons_zero, List.set_cons_succ])
            refine takeL0 (i := 30) (d := 165) (v := ?_) rfl rfl (by kernel_rfl) (by kernel_rfl) (by kernel_rfl) (by kernel_rfl) (fun _ _ _ _ _ h => h) (by rfl) ?_ (fun _ => hC) ?_
            rotate_left
            · intro w
              go_simp
              try with_reducible rfl
            (try simp only [Act.put, List.setIfInBounds_toArray, List.set_cons_zero, List.set_cons_succ])
            refine anyL_done (by kernel_rfl) ?_ _
            refine NoPanic.normal ?_
            clear hC hT H10 HF10
            go_wp2_with fail
            obtain ⟨wo9, rfl⟩ : ∃ wo9 : World, wo9 = wr := ⟨_, rfl⟩
            go_loopw [168] (fun i wr => ∃ h : Nat, h ≤ rooms.length ∧ i = .int .i64 h ∧ Hid (CtAt w (ctParts b5 w1.heap.size (.slice (some ⟨gr, 0, none⟩) rooms.length qr) (.slice at_ rooms.length qt) (.slice au rs.length qu) (.slice an N.length qn) rooms.length rooms traps rs nbN N b6 (.slice ac T.length qc) (.slice (some ⟨bL, 0, none⟩) rooms.length rooms.length) b8 lo hi ++ [pBlk bB 4 #[.bool false, .bool true]] ++ [pBlk b19 55 #[.slice aft (needsC C).length qft, .slice afl rooms.length qfl]]) (.slice ac T.length qc) (.slice (some ⟨bL, 0, none⟩) rooms.length rooms.length) (.slice al rooms.length ql) (.slice as_ rooms.length qs) (.slice aa rooms.length qa) T L left (startsC C) (afterC C) wr ∧ IsRows wr wr.heap.size (.slice aft (needsC C).length qft) (findT C (moreX false)) ∧ IsInts wr wr.heap.size (.slice afl rooms.length qfl) (findL C (moreX false)))) (fun i _ => rooms.length - (intOf i).toNat)
            case atStart => exact ⟨0, Nat.zero_le _, rfl, H11.out, HF11.out.1, HF11.out.2⟩
            case round =>
              obtain ⟨h, hh, rfl, HR2⟩ := hrel
              by_cases hlt2 : h < rooms.length
              · have hhi2 : (h : Int) < rooms.length := by omega
                obtain ⟨xea, yea, ea, _, _, hsc⟩ := HR2.out.1.starts.open
                rw [HSL.out] at hsc
                obtain ⟨bs, os, e2, hbs, m1, m2⟩ := hsc h hlt2
                have ea1 : as_ = xea := by injection ea
                subst ea1
                clear ea
                subst e2
                obtain ⟨slo, hslo⟩ : ∃ x, (nthP (startsC C) h).1 = x := ⟨_, rfl⟩
                obtain ⟨shi, hshi⟩ : ∃ x, (nthP (startsC C) h).2 = x := ⟨_, rfl⟩
                have hfw := from_within HFE.out HFT.out.fits (h := h) (by rw [HRL.out]; exact hlt2)
                rw [← starts_nth C (by rw [HRL.out]; exact hlt2), hslo, hshi] at hfw
                rw [hslo] at m1
                rw [hshi] at m2
                have HFW := Lib.hid hfw
                have H12 := Lib.hid (HR2.out.1.newBlk 49 #[.int .i64 slo, .int .i64 shi])
                have hba : Below wr.heap.size wr (wr.alloc (.cells #[.int .i64 slo, .int .i64 shi] 49)) := (Below.refl _ _).alloc (Nat.le_refl _) _
                have HF12 := Lib.hid (And.intro ((HR2.out.2.1.below hba (Nat.le_refl _)).mono hba.size) ((HR2.out.2.2.below hba (Nat.le_refl _)).mono hba.size))
                clear hsc hslo hshi hfw hba H11 HF11
                go_upto_region 26 with (fail)
                obtain ⟨W12, hW12⟩ : ∃ W12, wr.alloc (.cells #[.int .i64 slo, .int .i64 shi] 49) = W12 := ⟨_, rfl⟩
                obtain ⟨b24, hb24⟩ : ∃ b24, wr.heap.size = b24 := ⟨_, rfl⟩
                have h12 := H12.out
                have hf12 := HF12.out
                rw [hW12, hb24] at h12
                rw [hW12] at hf12
                rw [hW12, hb24]
                have H12 := Lib.hid h12.drew
                have HF12 := Lib.hid (And.intro (hf12.1.below ((Below.refl W12.heap.size W12).drew) (Nat.le_refl _)) (hf12.2.below ((Below.refl W12.heap.size W12).drew) (Nat.le_refl _)))
                clear hW12 hb24 h12 hf12 m1 m2
                have hC : Box2x b19 b24 (.slice aft (needsC C).length qft) (.slice afl rooms.length qfl) (.int .i64 slo) (.int .i64 shi) W12.drew := Box2x.of (H12.out.pw.at 8 rfl) (H12.out.pw.at 9 rfl)
                refine wp_region_noPanic ?_
                refine anyL_start (S := Till [] (Box2x b19 b24 (.slice aft (needsC C).length qft) (.slice afl rooms.length qfl) (.int .i64 slo) (.int .i64 shi))) (by kernel_rfl) (fun _ => hC) (fun hT => ?_)
                refine takeL0 (i := 1) (d := 174) (v := ?_) rfl rfl (by kernel_rfl) (by kernel_rfl) (by kernel_rfl) (by kernel_rfl) (fun _ _ _ _ _ h => h) (by rfl) ?_ (fun _ => hC) ?_
                rotate_left
                · intro w
                  go_simp
                  try with_reducible rfl
                (try simp only [Act.put, List.setIfInBounds_toArray, List.set_cons_zero, List.set_cons_succ])
                refine takeL (i := 0) (d := 173) (v := ?_) rfl rfl (by kernel_rfl) (by kernel_rfl) (by kernel_rfl) (by kernel_rfl) (by kernel_rfl) (by kernel_rfl) (fun _ _ _ _ _ h => h) (by rfl) ?_ hC ?_
                rotate_left
                · intro w hSw
                  (try dsimp only at hSw)
                  obtain ⟨hS0, hS1, hS2, hS3⟩ := hSw
                  go_simp
                  try with_reducible rfl
                (try simp only [Act.put, List.setIfInBounds_toArray, List.set_cons_zero, List.set_cons_succ])
                refine takeL (i := 3) (d := 176) (v := ?_) rfl rfl (by kernel_rfl) (by kernel_rfl) (by kernel_rfl) (by kernel_rfl) (by kernel_rfl) (by kernel_rfl) (fun _ _ _ _ _ h => h) (by rfl) ?_ hC ?_
                rotate_left
                · intro w hSw
                  (try dsimp only at hSw)
                  obtain ⟨hS0, hS1, hS2, hS3⟩ := hSw
                  go_simp
                  try with_reducible rfl
                (try simp only [Act.put, List.setIfInBounds_toArray, List.set_cons_zero, List.set_cons_succ])
                refine nextW (i := 2) rfl (by kernel_rfl) (by rfl) (fun K hK => ?_)
                go_simp
                refine (from_of HFT.out HCK.out (h := h) (by rw [HRL.out]; exact hlt2) _ _ W12.drew HF12.out.1 HF12.out.2).mono ?_
                rintro e w13 ⟨rfl, hb13⟩
                have H13 := Lib.hid (H12.out.below hb13)
                have HF13 := Lib.hid (And.intro ((HF12.out.1.below hb13 (Nat.le_refl _)).mono hb13.size) ((HF12.out.2.below hb13 (Nat.le_refl _)).mono hb13.size))
                clear hC hb13
                have hC : Box2x b19 b24 (.slice aft (needsC C).length qft) (.slice afl rooms.length qfl) (.int .i64 slo) (.int .i64 shi) w13 := Box2x.of (H13.out.pw.at 8 rfl) (H13.out.pw.at 9 rfl)
                obtain ⟨fx, hfx⟩ : ∃ x, fromT (findT C (moreX false)) (findL C (moreX false)) h (needsC C).length = x := ⟨_, rfl⟩
                rw [hfx] at HFW ⊢
                clear hfx
                go_simp
                refine hK.out _ _ (fun _ => hC) ?_
                clear hK K
                (try simp only [Act.put, List.setIfInBounds_toArray, List.set_cons_zero, List.set_cons_succ])
                refine nextW (i := 4) rfl (by kernel_rfl) (by rfl) (fun K hK => ?_)
                go_simp
                refine (within_yes HFW.out.1 HFW.out.2.1 w13).mono ?_
                rintro e w14 ⟨rfl, hb14⟩
                have H14 := Lib.hid (H13.out.below hb14)
                have HF14 := Lib.hid (And.intro ((HF13.out.1.below hb14 (Nat.le_refl _)).mono hb14.size) ((HF13.out.2.below hb14 (Nat.le_refl _)).mono hb14.size))
                clear hC hb14
                have hC : Box2x b19 b24 (.slice aft (needsC C).length qft) (.slice afl rooms.length qfl) (.int .i64 slo) (.int .i64 shi) w14 := Box2x.of (H14.out.pw.at 8 rfl) (H14.out.pw.at 9 rfl)
                go_simp
                refine hK.out _ _ (fun _ => hC) ?_
                clear hK K
                (try simp only [Act.put, List.setIfInBounds_toArray, List.set_cons_zero, List.set_cons_succ])
                refine takeL0 (i := 5) (d := 178) (v := ?_) rfl rfl (by kernel_rfl) (by kernel_rfl) (by kernel_rfl) (by kernel_rfl) (fun _ _ _ _ _ h => h) (by rfl) ?_ (fun _ => hC) ?_
                rotate_left
                · intro w
                  go_simp
                  try with_reducible rfl
                (try simp only [Act.put, List.setIfInBounds_toArray, List.set_cons_zero, List.set_cons_succ])
                refine anyL_done (by kernel_rfl) ?_ _
                refine NoPanic.normal ?_
                clear hC hT
                go_wp2_with fail
                go_roundw
                case rel => exact ⟨h + 1, by omega, by go_num, (H14.out.drop (qs := [_])), HF14.out.1, HF14.out.2⟩
                case measure => simp [intOf]; omega
              · obtain rfl : h = rooms.length := by omega
                have H12 := Lib.hid HR2.out.1.drop
                clear HR2 H11 HF11
                go_wp2_with fail
                go_roundw
                case rel => exact ⟨0 + 1, by omega, by first | rfl | go_num, H12.out⟩
                case measure => simp [intOf]
          · rw [show ((1 : Nat) : Int) = 1 from rfl]
            go_wp2_with fail
            refine (Find_ok C _ _ _ _ true wr (HCOL.out _ _ HR.out.pw rfl rfl rfl rfl) HFE.out).mono ?_
            rintro e w9 ⟨ftv, flv, rfl, hft, hfl, hb9⟩
            obtain ⟨aft, qft, rfl, _, _, _⟩ := hft.open
            obtain ⟨afl, qfl, rfl, _, _, _⟩ := hfl.open
            rw [findT_len] at hft ⊢
            rw [findL_len, HRL.out] at hfl ⊢
            have hba : Below w9.heap.size w9 (w9.alloc (.cells #[.slice aft (needsC C).length qft, .slice afl rooms.length qfl] 55)) := (Below.refl _ _).alloc (Nat.le_refl _) _
            have HF9 := Lib.hid (And.intro ((hft.below hba (Nat.le_refl _)).mono hba.size) ((hfl.below hba (Nat.le_refl _)).mono hba.size))
            have H9 := Lib.hid ((HR.out.below hb9).newBlk 55 #[.slice aft (needsC C).length qft, .slice afl rooms.length qfl])
            clear hft hfl hb9 hba k0 k1 k2 k3 kb HR
            go_upto_region 20 with (fail)
            obtain ⟨W9, hW9⟩ : ∃ W9, w9.alloc (.cells #[.slice aft (needsC C).length qft, .slice afl rooms.length qfl] 55) = W9 := ⟨_, rfl⟩
            obtain ⟨b19, hb19⟩ : ∃ b19, w9.heap.size = b19 := ⟨_, rfl⟩
            have h9 := H9.out
            have hf9 := HF9.out
            rw [hW9, hb19] at h9
            rw [hW9] at hf9
            rw [hW9, hb19]
            have H9 := Lib.hid h9
            have HF9 := Lib.hid hf9
            have HFT := Lib.hid (found_truth HFE.out (x := moreX true) (by decide))
            clear hW9 hb19 h9 hf9
            obtain ⟨k0, k1, k2, k3⟩ := four_at (H9.out.pw.at 0 rfl)
            obtain ⟨j0, j1⟩ := two_at (H9.out.pw.at 8 rfl)
            go_wp2_with fail
            refine (Fits_ok C _ _ _ _ _ _ _ _ W9 (HCOL.out _ _ H9.out.pw rfl rfl rfl rfl) HF9.out.1 HF9.out.2 (found_err HFE.out _)).mono ?_
            rintro e w10 ⟨b, rfl, hb, hb10⟩
            obtain rfl : b = true := hb.2 HFT.out.fits
            have H10 := Lib.hid (H9.out.below hb10)
            have HF10 := Lib.hid (And.intro ((HF9.out.1.below hb10 (Nat.le_refl _)).mono hb10.size) ((HF9.out.2.below hb10 (Nat.le_refl _)).mono hb10.size))
            clear hb hb10 H9 HF9 k0 k1 k2 k3 j0 j1
            go_upto_region 21 with (fail)
            have hce : countT (findT C (moreX true)) (findL C (moreX true)) C.rooms.length (needsC C).length = hi := (find_count HFE.out (by decide)).trans ((find_most HFE.out).trans HLH.out.2)
            have HCEQ := Lib.hid hce
            clear hce
            have hC : Box2x b19 b8 (.slice aft (needsC C).length qft) (.slice afl rooms.length qfl) (.int .i64 lo) (.int .i64 hi) w10.drew := Box2x.of (H10.out.pw.drew.at 8 rfl) (H10.out.pw.drew.at 6 rfl)
            refine wp_region_noPanic ?_
            refine anyL_start (S := Till [] (Box2x b19 b8 (.slice aft (needsC C).length qft) (.slice afl rooms.length qfl) (.int .i64 lo) (.int .i64 hi))) (by kernel_rfl) (fun _ => hC) (fun hT => ?_)
            refine takeL0 (i := 0) (d := 135) (v := ?_) rfl rfl (by kernel_rfl) (by kernel_rfl) (by kernel_rfl) (by kernel_rfl) (fun _ _ _ _ _ h => h) (by rfl) ?_ (fun _ => hC) ?_
            rotate_left
            · intro w
              go_simp
              try with_reducible rfl
            (try simp only [Act.put, List.setIfInBounds_toArray, List.set_cons_zero, List.set_cons_succ])
            refine takeL0 (i := 1) (d := 136) (v := ?_) rfl rfl (by kernel_rfl) (by kernel_rfl) (by kernel_rfl) (by kernel_rfl) (fun _ _ _ _ _ h => h) (by rfl) ?_ (fun _ => hC) ?_
            rotate_left
            · intro w
              go_simp
              try with_reducible rfl
            (try simp only [Act.put, List.setIfInBounds_toArray, List.set_cons_zero, List.set_cons_succ])
            refine takeL0 (i := 2) (d := 137) (v := ?_) rfl rfl (by kernel_rfl) (by kernel_rfl) (by kernel_rfl) (by kernel_rfl) (fun _ _ _ _ _ h => h) (by rfl) ?_ (fun _ => hC) ?_
            rotate_left
            · intro w
              go_simp
              try with_reducible rfl
            (try simp only [Act.put, List.setIfInBounds_toArray, List.set_cons_zero, List.set_cons_succ])
            refine takeL0 (i := 3) (d := 138) (v := ?_) rfl rfl (by kernel_rfl) (by kernel_rfl) (by kernel_rfl) (by kernel_rfl) (fun _ _ _ _ _ h => h) (by rfl) ?_ (fun _ => hC) ?_
            rotate_left
            · intro w
              go_simp
              try with_reducible rfl
            (try simp only [Act.put, List.setIfInBounds_toArray, List.set_cons_zero, List.set_cons_succ])
            refine takeL0 (i := 4) (d := 139) (v := ?_) rfl rfl (by kernel_rfl) (by kernel_rfl) (by kernel_rfl) (by kernel_rfl) (fun _ _ _ _ _ h => h) (by rfl) ?_ (fun _ => hC) ?_
            rotate_left
            · intro w
              go_simp
              try with_reducible rfl
            (try simp only [Act.put, List.setIfInBounds_toArray, List.set_cons_zero, List.set_cons_succ])
            refine takeL0 (i := 5) (d := 140) (v := ?_) rfl rfl (by kernel_rfl) (by kernel_rfl) (by kernel_rfl) (by kernel_rfl) (fun _ _ _ _ _ h => h) (by rfl) ?_ (fun _ => hC) ?_
            rotate_left
            · intro w
              go_simp
              try with_reducible rfl
            (try simp only [Act.put, List.setIfInBounds_toArray, List.set_cons_zero, List.set_cons_succ])
            refine takeL0 (i := 6) (d := 141) (v := ?_) rfl rfl (by kernel_rfl) (by kernel_rfl) (by kernel_rfl) (by kernel_rfl) (fun _ _ _ _ _ h => h) (by rfl) ?_ (fun _ => hC) ?_
            rotate_left
            · intro w
              go_simp
              try with_reducible rfl
            (try simp only [Act.put, List.setIfInBounds_toArray, List.set_cons_zero, List.set_cons_succ])
            refine takeL0 (i := 7) (d := 142) (v := ?_) rfl rfl (by kernel_rfl) (by kernel_rfl) (by kernel_rfl) (by kernel_rfl) (fun _ _ _ _ _ h => h) (by rfl) ?_ (fun _ => hC) ?_
            rotate_left
            · intro w
              go_simp
              try with_reducible rfl
            (try simp only [Act.put, List.setIfInBounds_toArray, List.set_cons_zero, List.set_cons_succ])
            refine takeL0 (i := 8) (d := 143) (v := ?_) rfl rfl (by kernel_rfl) (by kernel_rfl) (by kernel_rfl) (by kernel_rfl) (fun _ _ _ _ _ h => h) (by rfl) ?_ (fun _ => hC) ?_
            rotate_left
            · intro w
              go_simp
              try with_reducible rfl
            (try simp only [Act.put, List.setIfInBounds_toArray, List.set_cons_zero, List.set_cons_succ])
            refine takeL0 (i := 9) (d := 144) (v := ?_) rfl rfl (by kernel_rfl) (by kernel_rfl) (by kernel_rfl) (by kernel_rfl) (fun _ _ _ _ _ h => h) (by rfl) ?_ (fun _ => hC) ?_
            rotate_left
            · intro w
              go_simp
              try with_reducible rfl
            (try simp only [Act.put, List.setIfInBounds_toArray, List.set_cons_zero, List.set_cons_succ])
            refine takeL0 (i := 10) (d := 145) (v := ?_) rfl rfl (by kernel_rfl) (by kernel_rfl) (by kernel_rfl) (by kernel_rfl) (fun _ _ _ _ _ h => h) (by rfl) ?_ (fun _ => hC) ?_
            rotate_left
            · intro w
              go_simp
              try with_reducible rfl
            (try simp only [Act.put, List.setIfInBounds_toArray, List.set_cons_zero, List.set_cons_succ])
            refine takeL0 (i := 11) (d := 146) (v := ?_) rfl rfl (by kernel_rfl) (by kernel_rfl) (by kernel_rfl) (by kernel_rfl) (fun _ _ _ _ _ h => h) (by rfl) ?_ (fun _ => hC) ?_
            rotate_left
            · intro w
              go_simp
              try with_reducible rfl
            (try simp only [Act.put, List.setIfInBounds_toArray, List.set_cons_zero, List.set_cons_succ])
            refine takeL0 (i := 12) (d := 147) (v := ?_) rfl rfl (by kernel_rfl) (by kernel_rfl) (by kernel_rfl) (by kernel_rfl) (fun _ _ _ _ _ h => h) (by rfl) ?_ (fun _ => hC) ?_
            rotate_left
            · intro w
              go_simp
              try with_reducible rfl
            (try simp only [Act.put, List.setIfInBounds_toArray, List.set_cons_zero, List.set_cons_succ])
            refine takeL0 (i := 15) (d := 150) (v := ?_) rfl rfl (by kernel_rfl) (by kernel_rfl) (by kernel_rfl) (by kernel_rfl) (fun _ _ _ _ _ h => h) (by rfl) ?_ (fun _ => hC) ?_
            rotate_left
            · intro w
              go_simp
              try with_reducible rfl
            (try simp only [Act.put, List.setIfInBounds_toArray, List.set_cons_zero, List.set_cons_succ])
            refine takeL (i := 13) (d := 148) (v := ?_) rfl rfl (by kernel_rfl) (by kernel_rfl) (by kernel_rfl) (by kernel_rfl) (by kernel_rfl) (by kernel_rfl) (fun _ _ _ _ _ h => h) (by rfl) ?_ hC ?_
            rotate_left
            · intro w hSw
              (try dsimp only at hSw)
              obtain ⟨hS0, hS1, hS2, hS3⟩ := hSw
              go_simp
              try with_reducible rfl
            (try simp only [Act.put, List.setIfInBounds_toArray, List.set_cons_zero, List.set_cons_succ])
            refine takeL (i := 16) (d := 151) (v := ?_) rfl rfl (by kernel_rfl) (by kernel_rfl) (by kernel_rfl) (by kernel_rfl) (by kernel_rfl) (by kernel_rfl) (fun _ _ _ _ _ h => h) (by rfl) ?_ hC ?_
            rotate_left
            · intro w hSw
              (try dsimp only at hSw)
              obtain ⟨hS0, hS1, hS2, hS3⟩ := hSw
              go_simp
              try with_reducible rfl
            (try simp only [Act.put, List.setIfInBounds_toArray, List.set_cons_zero, List.set_cons_succ])
            refine nextW (i := 14) rfl (by kernel_rfl) (by rfl) (fun K hK => ?_)
            go_simp
            refine (count_of HFT.out HCK.out _ _ w10.drew HF10.out.1 HF10.out.2).mono ?_
            rintro e w11 ⟨rfl, hb11'⟩
            have hb11 : Below w10.heap.size w10 w11 := ((Below.refl _ w10).drew).trans hb11'
            rw [HCEQ.out]
            have H11 := Lib.hid (H10.out.below hb11)
            have HF11 := Lib.hid (And.intro ((HF10.out.1.below hb11 (Nat.le_refl _)).mono hb11.size) ((HF10.out.2.below hb11 (Nat.le_refl _)).mono hb11.size))
            clear hC hb11 hb11'
            have hC : Box2x b19 b8 (.slice aft (needsC C).length qft) (.slice afl rooms.length qfl) (.int .i64 lo) (.int .i64 hi) w11 := Box2x.of (H11.out.pw.at 8 rfl) (H11.out.pw.at 6 rfl)
            go_simp
            refine hK.out _ _ (fun _ => hC) ?_
            clear hK K
            (try simp only [Act.put, List.setIfInBounds_toArray, List.set_cons_zero, List.set_cons_succ])
            refine takeL0 (i := 17) (d := 152) (v := ?_) rfl rfl (by kernel_rfl) (by kernel_rfl) (by kernel_rfl) (by kernel_rfl) (fun _ _ _ _ _ h => h) (by rfl) ?_ (fun _ => hC) ?_
            rotate_left
            · intro w
              go_simp
              try with_reducible rfl
            (try simp only [Act.put, List.setIfInBounds_toArray, List.set_cons_zero, List.set_cons_succ])
            refine takeL0 (i := 18) (d := 153) (v := ?_) rfl rfl (by kernel_rfl) (by kernel_rfl) (by kernel_rfl) (by kernel_rfl) (fun _ _ _ _ _ h => h) (by rfl) ?_ (fun _ => hC) ?_
            rotate_left
            · intro w
              go_simp
              try with_reducible rfl
            (try simp only [Act.put, List.setIfInBounds_toArray, List.set_cons_zero, List.set_cons_succ])
            refine takeL0 (i := 19) (d := 154) (v := ?_) rfl rfl (by kernel_rfl) (by kernel_rfl) (by kernel_rfl) (by kernel_rfl) (fun _ _ _ _ _ h => h) (by rfl) ?_ (fun _ => hC) ?_
            rotate_left
            · intro w
              go_simp
              try with_reducible rfl
            (try simp only [Act.put, List.setIfInBounds_toArray, List.set_cons_zero, List.set_cons_succ])
            refine takeL0 (i := 20) (d := 155) (v := ?_) rfl rfl (by kernel_rfl) (by kernel_rfl) (by kernel_rfl) (by kernel_rfl) (fun _ _ _ _ _ h => h) (by rfl) ?_ (fun _ => hC) ?_
            rotate_left
            · intro w
              go_simp
              try with_reducible rfl
            (try simp only [Act.put, List.setIfInBounds_toArray, List.set_cons_zero, List.set_cons_succ])
            refine takeL0 (i := 21) (d := 156) (v := ?_) rfl rfl (by kernel_rfl) (by kernel_rfl) (by kernel_rfl) (by kernel_rfl) (fun _ _ _ _ _ h => h) (by rfl) ?_ (fun _ => hC) ?_
            rotate_left
            · intro w
              go_simp
              try with_reducible rfl
            (try simp only [Act.put, List.setIfInBounds_toArray, List.set_cons_zero, List.set_cons_succ])
            refine takeL0 (i := 22) (d := 157) (v := ?_) rfl rfl (by kernel_rfl) (by kernel_rfl) (by kernel_rfl) (by kernel_rfl) (fun _ _ _ _ _ h => h) (by rfl) ?_ (fun _ => hC) ?_
            rotate_left
            · intro w
              go_simp
              try with_reducible rfl
            (try simp only [Act.put, List.setIfInBounds_toArray, List.set_cons_zero, List.set_cons_succ])
            refine takeL0 (i := 23) (d := 158) (v := ?_) rfl rfl (by kernel_rfl) (by kernel_rfl) (by kernel_rfl) (by kernel_rfl) (fun _ _ _ _ _ h => h) (by rfl) ?_ (fun _ => hC) ?_
            rotate_left
            · intro w
              go_simp
              try with_reducible rfl
            (try simp only [Act.put, List.setIfInBounds_toArray, List.set_cons_zero, List.set_cons_succ])
            refine skipL (i := 24) (d := 159) rfl rfl (by kernel_rfl) (by kernel_rfl) (by kernel_rfl) (by kernel_rfl) (fun _ _ _ _ _ h => h) (by rfl) (fun _ => hC) ?_
            (try simp only [Act.put, List.setIfInBounds_toArray, List.set_cons_zero, List.set_cons_succ])
            refine skipL (i := 25) (d := 160) rfl rfl (by kernel_rfl) (by kernel_rfl) (by kernel_rfl) (by kernel_rfl) (fun _ _ _ _ _ h => h) (by rfl) (fun _ => hC) ?_
            (try simp only [Act.put, List.setIfInBounds_toArray, List.set_cons_zero, List.set_cons_succ])
            refine skipL (i := 26) (d := 161) rfl rfl (by kernel_rfl) (by kernel_rfl) (by kernel_rfl) (by kernel_rfl) (fun _ _ _ _ _ h => h) (by rfl) (fun _ => hC) ?_
            (try simp only [Act.put, List.setIfInBounds_toArray, List.set_cons_zero, List.set_cons_succ])
            refine skipL (i := 27) (d := 162) rfl rfl (by kernel_rfl) (by kernel_rfl) (by kernel_rfl) (by kernel_rfl) (fun _ _ _ _ _ h => h) (by rfl) (fun _ => hC) ?_
            (try simp only [Act.put, List.setIfInBounds_toArray, List.set_cons_zero, List.set_cons_succ])
            refine skipL (i := 28) (d := 163) rfl rfl (by kernel_rfl) (by kernel_rfl) (by kernel_rfl) (by kernel_rfl) (fun _ _ _ _ _ h => h) (by rfl) (fun _ => hC) ?_
            (try simp only [Act.put, List.setIfInBounds_toArray, List.set_cons_zero, List.set_cons_succ])
            refine takeL0 (i := 29) (d := 164) (v := ?_) rfl rfl (by kernel_rfl) (by kernel_rfl) (by kernel_rfl) (by kernel_rfl) (fun _ _ _ _ _ h => h) (by rfl) ?_ (fun _ => hC) ?_
            rotate_left
            · intro w
              go_simp
              try with_reducible rfl
            (try simp only [Act.put, List.setIfInBounds_toArray, List.set_cons_zero, List.set_cons_succ])
            refine takeL0 (i := 30) (d := 165) (v := ?_) rfl rfl (by kernel_rfl) (by kernel_rfl) (by kernel_rfl) (by kernel_rfl) (fun _ _ _ _ _ h => h) (by rfl) ?_ (fun _ => hC) ?_
            rotate_left
            · intro w
              go_simp
              try with_reducible rfl
            (try simp only [Act.put, List.setIfInBounds_toArray, List.set_cons_zero, List.set_cons_succ])
            refine anyL_done (by kernel_rfl) ?_ _
            refine NoPanic.normal ?_
            clear hC hT H10 HF10
            go_wp2_with fail
            obtain ⟨wo9, rfl⟩ : ∃ wo9 : World, wo9 = wr := ⟨_, rfl⟩
            go_loopw [168] (fun i wr => ∃ h : Nat, h ≤ rooms.length ∧ i = .int .i64 h ∧ Hid (CtAt w (ctParts b5 w1.heap.size (.slice (some ⟨gr, 0, none⟩) rooms.length qr) (.slice at_ rooms.length qt) (.slice au rs.length qu) (.slice an N.length qn) rooms.length rooms traps rs nbN N b6 (.slice ac T.length qc) (.slice (some ⟨bL, 0, none⟩) rooms.length rooms.length) b8 lo hi ++ [pBlk bB 4 #[.bool false, .bool true]] ++ [pBlk b19 55 #[.slice aft (needsC C).length qft, .slice afl rooms.length qfl]]) (.slice ac T.length qc) (.slice (some ⟨bL, 0, none⟩) rooms.length rooms.length) (.slice al rooms.length ql) (.slice as_ rooms.length qs) (.slice aa rooms.length qa) T L left (startsC C) (afterC C) wr ∧ IsRows wr wr.heap.size (.slice aft (needsC C).length qft) (findT C (moreX true)) ∧ IsInts wr wr.heap.size (.slice afl rooms.length qfl) (findL C (moreX true)))) (fun i _ => rooms.length - (intOf i).toNat)
            case atStart => exact ⟨0, Nat.zero_le _, rfl, H11.out, HF11.out.1, HF11.out.2⟩
            case round =>
              obtain ⟨h, hh, rfl, HR2⟩ := hrel
              by_cases hlt2 : h < rooms.length
              · have hhi2 : (h : Int) < rooms.length := by omega
                obtain ⟨xea, yea, ea, _, _, hsc⟩ := HR2.out.1.starts.open
                rw [HSL.out] at hsc
                obtain ⟨bs, os, e2, hbs, m1, m2⟩ := hsc h hlt2
                have ea1 : as_ = xea := by injection ea
                subst ea1
                clear ea
                subst e2
                obtain ⟨slo, hslo⟩ : ∃ x, (nthP (startsC C) h).1 = x := ⟨_, rfl⟩
                obtain ⟨shi, hshi⟩ : ∃ x, (nthP (startsC C) h).2 = x := ⟨_, rfl⟩
                have hfw := from_within HFE.out HFT.out.fits (h := h) (by rw [HRL.out]; exact hlt2)
                rw [← starts_nth C (by rw [HRL.out]; exact hlt2), hslo, hshi] at hfw
                rw [hslo] at m1
                rw [hshi] at m2
                have HFW := Lib.hid hfw
                have H12 := Lib.hid (HR2.out.1.newBlk 49 #[.int .i64 slo, .int .i64 shi])
                have hba : Below wr.heap.size wr (wr.alloc (.cells #[.int .i64 slo, .int .i64 shi] 49)) := (Below.refl _ _).alloc (Nat.le_refl _) _
                have HF12 := Lib.hid (And.intro ((HR2.out.2.1.below hba (Nat.le_refl _)).mono hba.size) ((HR2.out.2.2.below hba (Nat.le_refl _)).mono hba.size))
                clear hsc hslo hshi hfw hba H11 HF11
                go_upto_region 26 with (fail)
                obtain ⟨W12, hW12⟩ : ∃ W12, wr.alloc (.cells #[.int .i64 slo, .int .i64 shi] 49) = W12 := ⟨_, rfl⟩
                obtain ⟨b24, hb24⟩ : ∃ b24, wr.heap.size = b24 := ⟨_, rfl⟩
                have h12 := H12.out
                have hf12 := HF12.out
                rw [hW12, hb24] at h12
                rw [hW12] at hf12
                rw [hW12, hb24]
                have H12 := Lib.hid h12.drew
                have HF12 := Lib.hid (And.intro (hf12.1.below ((Below.refl W12.heap.size W12).drew) (Nat.le_refl _)) (hf12.2.below ((Below.refl W12.heap.size W12).drew) (Nat.le_refl _)))
                clear hW12 hb24 h12 hf12 m1 m2
                have hC : Box2x b19 b24 (.slice aft (needsC C).length qft) (.slice afl rooms.length qfl) (.int .i64 slo) (.int .i64 shi) W12.drew := Box2x.of (H12.out.pw.at 8 rfl) (H12.out.pw.at 9 rfl)
                refine wp_region_noPanic ?_
                refine anyL_start (S := Till [] (Box2x b19 b24 (.slice aft (needsC C).length qft) (.slice afl rooms.length qfl) (.int .i64 slo) (.int .i64 shi))) (by kernel_rfl) (fun _ => hC) (fun hT => ?_)
                refine takeL0 (i := 1) (d := 174) (v := ?_) rfl rfl (by kernel_rfl) (by kernel_rfl) (by kernel_rfl) (by kernel_rfl) (fun _ _ _ _ _ h => h) (by rfl) ?_ (fun _ => hC) ?_
                rotate_left
                · intro w
                  go_simp
                  try with_reducible rfl
                (try simp only [Act.put, List.setIfInBounds_toArray, List.set_cons_zero, List.set_cons_succ])
                refine takeL (i := 0) (d := 173) (v := ?_) rfl rfl (by kernel_rfl) (by kernel_rfl) (by kernel_rfl) (by kernel_rfl) (by kernel_rfl) (by kernel_rfl) (fun _ _ _ _ _ h => h) (by rfl) ?_ hC ?_
                rotate_left
                · intro w hSw
                  (try dsimp only at hSw)
                  obtain ⟨hS0, hS1, hS2, hS3⟩ := hSw
                  go_simp
                  try with_reducible rfl
                (try simp only [Act.put, List.setIfInBounds_toArray, List.set_cons_zero, List.set_cons_succ])
                refine takeL (i := 3) (d := 176) (v := ?_) rfl rfl (by kernel_rfl) (by kernel_rfl) (by kernel_rfl) (by kernel_rfl) (by kernel_rfl) (by kernel_rfl) (fun _ _ _ _ _ h => h) (by rfl) ?_ hC ?_
                rotate_left
                · intro w hSw
                  (try dsimp only at hSw)
                  obtain ⟨hS0, hS1, hS2, hS3⟩ := hSw
                  go_simp
                  try with_reducible rfl
                (try simp only [Act.put, List.setIfInBounds_toArray, List.set_cons_zero, List.set_cons_succ])
                refine nextW (i := 2) rfl (by kernel_rfl) (by rfl) (fun K hK => ?_)
                go_simp
                refine (from_of HFT.out HCK.out (h := h) (by rw [HRL.out]; exact hlt2) _ _ W12.drew HF12.out.1 HF12.out.2).mono ?_
                rintro e w13 ⟨rfl, hb13⟩
                have H13 := Lib.hid (H12.out.below hb13)
                have HF13 := Lib.hid (And.intro ((HF12.out.1.below hb13 (Nat.le_refl _)).mono hb13.size) ((HF12.out.2.below hb13 (Nat.le_refl _)).mono hb13.size))
                clear hC hb13
                have hC : Box2x b19 b24 (.slice aft (needsC C).length qft) (.slice afl rooms.length qfl) (.int .i64 slo) (.int .i64 shi) w13 := Box2x.of (H13.out.pw.at 8 rfl) (H13.out.pw.at 9 rfl)
                obtain ⟨fx, hfx⟩ : ∃ x, fromT (findT C (moreX true)) (findL C (moreX true)) h (needsC C).length = x := ⟨_, rfl⟩
                rw [hfx] at HFW ⊢
                clear hfx
                go_simp
                refine hK.out _ _ (fun _ => hC) ?_
                clear hK K
                (try simp only [Act.put, List.setIfInBounds_toArray, List.set_cons_zero, List.set_cons_succ])
                refine nextW (i := 4) rfl (by kernel_rfl) (by rfl) (fun K hK => ?_)
                go_simp
                refine (within_yes HFW.out.1 HFW.out.2.1 w13).mono ?_
                rintro e w14 ⟨rfl, hb14⟩
                have H14 := Lib.hid (H13.out.below hb14)
                have HF14 := Lib.hid (And.intro ((HF13.out.1.below hb14 (Nat.le_refl _)).mono hb14.size) ((HF13.out.2.below hb14 (Nat.le_refl _)).mono hb14.size))
                clear hC hb14
                have hC : Box2x b19 b24 (.slice aft (needsC C).length qft) (.slice afl rooms.length qfl) (.int .i64 slo) (.int .i64 shi) w14 := Box2x.of (H14.out.pw.at 8 rfl) (H14.out.pw.at 9 rfl)
                go_simp
                refine hK.out _ _ (fun _ => hC) ?_
                clear hK K
                (try simp only [Act.put, List.setIfInBounds_toArray, List.set_cons_zero, List.set_cons_succ])
                refine takeL0 (i := 5) (d := 178) (v := ?_) rfl rfl (by kernel_rfl) (by kernel_rfl) (by kernel_rfl) (by kernel_rfl) (fun _ _ _ _ _ h => h) (by rfl) ?_ (fun _ => hC) ?_
                rotate_left
                · intro w
                  go_simp
                  try with_reducible rfl
                (try simp only [Act.put, List.setIfInBounds_toArray, List.set_cons_zero, List.set_cons_succ])
                refine anyL_done (by kernel_rfl) ?_ _
                refine NoPanic.normal ?_
                clear hC hT
                go_wp2_with fail
                go_roundw
                case rel => exact ⟨h + 1, by omega, by go_num, (H14.out.drop (qs := [_])), HF14.out.1, HF14.out.2⟩
                case measure => simp [intOf]; omega
              · obtain rfl : h = rooms.length := by omega
                have H12 := Lib.hid HR2.out.1.drop
                clear HR2 H11 HF11
                go_wp2_with fail
                go_roundw
                case rel => exact ⟨1 + 1, by omega, by first | rfl | go_num, H12.out⟩
                case measure => simp [intOf]
        · obtain rfl : k = 2 := by omega
          have H12 := Lib.hid HR.out.drop
          clear HR H11
          rw [show ((2 : Nat) : Int) = 2 from rfl]
          go_wp2_with fail
          obtain ⟨wo9, rfl⟩ : ∃ wo9 : World, wo9 = wr := ⟨_, rfl⟩
          go_loopw [183] (fun i wr => ∃ h : Nat, h ≤ rooms.length ∧ i = .int .i64 h ∧ Hid (CtAt w (ctParts b5 w1.heap.size (.slice (some ⟨gr, 0, none⟩) rooms.length qr) (.slice at_ rooms.length qt) (.slice au rs.length qu) (.slice an N.length qn) rooms.length rooms traps rs nbN N b6 (.slice ac T.length qc) (.slice (some ⟨bL, 0, none⟩) rooms.length rooms.length) b8 lo hi) (.slice ac T.length qc) (.slice (some ⟨bL, 0, none⟩) rooms.length rooms.length) (.slice al rooms.length ql) (.slice as_ rooms.length qs) (.slice aa rooms.length qa) T L left (startsC C) (afterC C) wr)) (fun i _ => rooms.length - (intOf i).toNat)
          case atStart => exact ⟨0, Nat.zero_le _, rfl, H12.out⟩
          case round =>
            obtain ⟨h, hh, rfl, HR⟩ := hrel
            by_cases hlt2 : h < rooms.length
            · have hhi2 : (h : Int) < rooms.length := by omega
              obtain ⟨xea, yea, ea, _, _, hsc⟩ := HR.out.starts.open
              rw [HSL.out] at hsc
              obtain ⟨bs, os, e2, hbs, m1, m2⟩ := hsc h hlt2
              have ea1 : as_ = xea := by injection ea
              subst ea1
              clear ea
              subst e2
              obtain ⟨xeb, yeb, eb, _, _, hac⟩ := HR.out.after.open
              rw [HAL.out] at hac
              obtain ⟨ba, oa, e3, hba, m3⟩ := hac h hlt2
              have eb1 : aa = xeb := by injection eb
              subst eb1
              clear eb
              subst e3
              obtain ⟨xec, yec, ec, _, _, hlc⟩ := HR.out.inl.open
              rw [HLL.out] at hlc
              obtain ⟨bl, ol, e4, hbl, m4⟩ := hlc h hlt2
              have ec1 : al = xec := by injection ec
              subst ec1
              clear ec
              subst e4
              have m5 := (IntBlk.of_owns (HR.out.pw.at 1 rfl) rfl (fun _ _ => rfl)).cell hlt2
              have hhC : h < C.rooms.length := by rw [HRL.out]; exact hlt2
              have hla := left_after HFE.out HTI.out.fits hhC (HLX.out h hlt2)
              rw [HRL.out, ← HLI.out h hlt2, HLH.out.1, HLH.out.2] at hla
              have hfw := from_within HFE.out HTI.out.fits hhC
              rw [← starts_nth C hhC, HRL.out] at hfw
              obtain ⟨slo, hslo⟩ : ∃ x, (nthP (startsC C) h).1 = x := ⟨_, rfl⟩
              obtain ⟨shi, hshi⟩ : ∃ x, (nthP (startsC C) h).2 = x := ⟨_, rfl⟩
              obtain ⟨af, haf⟩ : ∃ x, nth (afterC C) h = x := ⟨_, rfl⟩
              obtain ⟨lf, hlf⟩ : ∃ x, nth left h = x := ⟨_, rfl⟩
              obtain ⟨rm, hrm⟩ : ∃ x, nth rooms h = x := ⟨_, rfl⟩
              rw [hslo, hshi, hrm] at hfw
              rw [haf, hlf] at hla
              rw [hslo] at m1
              rw [hshi] at m2
              rw [haf] at m3
              rw [hlf] at m4
              rw [hrm] at m5
              have hbd := HBD.out
              have hsub : IntKind.i64.wrap (hi - lo) = hi - lo := by rw [IntKind.wrap_i64]; omega
              have HFW := Lib.hid hfw
              have H13 := Lib.hid (HR.out.newBlk 49 #[.int .i64 slo, .int .i64 shi])
              have hba2 : Below wr.heap.size wr (wr.alloc (.cells #[.int .i64 slo, .int .i64 shi] 49)) := (Below.refl _ _).alloc (Nat.le_refl _) _
              have key : ∀ (b o : Nat) (v : Value), wr.cell? ⟨b, o, none⟩ = some v → (wr.alloc (.cells #[.int .i64 slo, .int .i64 shi] 49)).cell? ⟨b, o, none⟩ = some v := fun b o v e => (hba2.cell (p := ⟨b, o, none⟩) (block_lt_of_cell e)).trans e
              have HC0 : Hid (BoxEnd b6 wr.heap.size b5 gr h bl (ol + h) ba (oa + h) b8 (.slice ac T.length qc) (.slice (some ⟨bL, 0, none⟩) rooms.length rooms.length) (.slice (some ⟨gr, 0, none⟩) rooms.length qr) slo shi rm lf af lo hi (wr.alloc (.cells #[.int .i64 slo, .int .i64 shi] 49))) :=
                ⟨(two_at (H13.out.pw.at 5 rfl)).1, (two_at (H13.out.pw.at 5 rfl)).2, (two_at (H13.out.pw.at 7 rfl)).1, (two_at (H13.out.pw.at 7 rfl)).2, (four_at (H13.out.pw.at 0 rfl)).1, key _ _ _ m5, key _ _ _ m4, key _ _ _ m3, (two_at (H13.out.pw.at 6 rfl)).1, (two_at (H13.out.pw.at 6 rfl)).2⟩
              clear hsc hac hlc hslo hshi haf hlf hrm hba2 key hbs hba hbl H12 m3 m4 m5 hhC
              go_upto_region 33 with (fail)
              obtain ⟨W13, hW13⟩ : ∃ W13, wr.alloc (.cells #[.int .i64 slo, .int .i64 shi] 49) = W13 := ⟨_, rfl⟩
              obtain ⟨b26, hb26⟩ : ∃ b26, wr.heap.size = b26 := ⟨_, rfl⟩
              have h13 := H13.out
              have hc0 := HC0.out
              rw [hW13, hb26] at h13 hc0
              rw [hW13, hb26]
              have H13 := Lib.hid h13.drew
              have hC : BoxEnd b6 b26 b5 gr h bl (ol + h) ba (oa + h) b8 (.slice ac T.length qc) (.slice (some ⟨bL, 0, none⟩) rooms.length rooms.length) (.slice (some ⟨gr, 0, none⟩) rooms.length qr) slo shi rm lf af lo hi W13.drew := hc0.below (Below.refl _ _).drew
              clear hW13 hb26 h13 hc0 HC0 m1 m2
              refine wp_region_noPanic ?_
              refine anyL_start (S := Till [] (BoxEnd b6 b26 b5 gr h bl (ol + h) ba (oa + h) b8 (.slice ac T.length qc) (.slice (some ⟨bL, 0, none⟩) rooms.length rooms.length) (.slice (some ⟨gr, 0, none⟩) rooms.length qr) slo shi rm lf af lo hi)) (by kernel_rfl) (fun _ => hC) (fun hT => ?_)
              refine takeL0 (i := 1) (d := 189) (v := ?_) rfl rfl (by kernel_rfl) (by kernel_rfl) (by kernel_rfl) (by kernel_rfl) (fun _ _ _ _ _ h => h) (by rfl) ?_ (fun _ => hC) ?_
              rotate_left
              · intro w
                go_simp
                try with_reducible rfl
              (try simp only [Act.put, List.setIfInBounds_toArray, List.set_cons_zero, List.set_cons_succ])
              refine takeL (i := 0) (d := 188) (v := ?_) rfl rfl (by kernel_rfl) (by kernel_rfl) (by kernel_rfl) (by kernel_rfl) (by kernel_rfl) (by kernel_rfl) (fun _ _ _ _ _ h => h) (by rfl) ?_ hC ?_
              rotate_left
              · intro w hSw
                (try dsimp only at hSw)
                obtain ⟨hS0, hS1, hS2, hS3, hS4, hS5, hS6, hS7, hS8, hS9⟩ := hSw
                go_simp
                try with_reducible rfl
              (try simp only [Act.put, List.setIfInBounds_toArray, List.set_cons_zero, List.set_cons_succ])
              refine takeL (i := 3) (d := 191) (v := ?_) rfl rfl (by kernel_rfl) (by kernel_rfl) (by kernel_rfl) (by kernel_rfl) (by kernel_rfl) (by kernel_rfl) (fun _ _ _ _ _ h => h) (by rfl) ?_ hC ?_
              rotate_left
              · intro w hSw
                (try dsimp only at hSw)
                obtain ⟨hS0, hS1, hS2, hS3, hS4, hS5, hS6, hS7, hS8, hS9⟩ := hSw
                go_simp
                try with_reducible rfl
              (try simp only [Act.put, List.setIfInBounds_toArray, List.set_cons_zero, List.set_cons_succ])
              refine nextW (i := 2) rfl (by kernel_rfl) (by rfl) (fun K hK => ?_)
              go_simp
              refine (from_of HTI.out HCK.out (h := h) (by rw [HRL.out]; exact hlt2) _ _ W13.drew H13.out.rows H13.out.left).mono ?_
              rintro e w14 ⟨rfl, hb14⟩
              have H14 := Lib.hid (H13.out.below hb14)
              have hC2 := hC.below hb14
              clear hC hb14
              have hC := hC2
              clear hC2
              obtain ⟨fx, hfx⟩ : ∃ x, fromT T L h (needsC C).length = x := ⟨_, rfl⟩
              rw [hfx] at HFW ⊢
              clear hfx
              go_simp
              refine hK.out _ _ (fun _ => hC) ?_
              clear hK K
              (try simp only [Act.put, List.setIfInBounds_toArray, List.set_cons_zero, List.set_cons_succ])
              refine nextW (i := 4) rfl (by kernel_rfl) (by rfl) (fun K hK => ?_)
              go_simp
              refine (within_yes HFW.out.1 HFW.out.2.1 w14).mono ?_
              rintro e w15 ⟨rfl, hb15⟩
              have H15 := Lib.hid (H14.out.below hb15)
              have hC2 := hC.below hb15
              clear hC hb15
              have hC := hC2
              clear hC2
              have hs0 : decide (slo < 0) = false := decide_eq_false (by have := HFW.out.2.2.1; omega)
              have hs1 : decide (rm < shi) = false := decide_eq_false (by have := HFW.out.2.2.2; omega)
              have hs2 : decide (af < lf) = false := decide_eq_false (by have := hla.1; omega)
              have hs3 : decide (hi - lo < af) = false := decide_eq_false (by have := hla.2; omega)
              go_simp
              refine hK.out _ _ (fun _ => hC) ?_
              clear hK K
              (try simp only [Act.put, List.setIfInBounds_toArray, List.set_cons_zero, List.set_cons_succ])
              refine takeL0 (i := 5) (d := 193) (v := ?_) rfl rfl (by kernel_rfl) (by kernel_rfl) (by kernel_rfl) (by kernel_rfl) (fun _ _ _ _ _ h => h) (by rfl) ?_ (fun _ => hC) ?_
              rotate_left
              · intro w
                go_simp
                try with_reducible rfl
              (try simp only [Act.put, List.setIfInBounds_toArray, List.set_cons_zero, List.set_cons_succ])
              refine takeL0 (i := 6) (d := 194) (v := ?_) rfl rfl (by kernel_rfl) (by kernel_rfl) (by kernel_rfl) (by kernel_rfl) (fun _ _ _ _ _ h => h) (by rfl) ?_ (fun _ => hC) ?_
              rotate_left
              · intro w
                go_simp
                try with_reducible rfl
              (try simp only [Act.put, List.setIfInBounds_toArray, List.set_cons_zero, List.set_cons_succ])
              refine takeL0 (i := 7) (d := 195) (v := ?_) rfl rfl (by kernel_rfl) (by kernel_rfl) (by kernel_rfl) (by kernel_rfl) (fun _ _ _ _ _ h => h) (by rfl) ?_ (fun _ => hC) ?_
              rotate_left
              · intro w
                go_simp
                try with_reducible rfl
              (try simp only [Act.put, List.setIfInBounds_toArray, List.set_cons_zero, List.set_cons_succ])
              refine takeL (i := 8) (d := 196) (v := ?_) rfl rfl (by kernel_rfl) (by kernel_rfl) (by kernel_rfl) (by kernel_rfl) (by kernel_rfl) (by kernel_rfl) (fun _ _ _ _ _ h => h) (by rfl) ?_ hC ?_
              rotate_left
              · intro w hSw
                (try dsimp only at hSw)
                obtain ⟨hS0, hS1, hS2, hS3, hS4, hS5, hS6, hS7, hS8, hS9⟩ := hSw
                go_simp
                try with_reducible rfl
              (try simp only [Act.put, List.setIfInBounds_toArray, List.set_cons_zero, List.set_cons_succ])
              refine takeL0 (i := 9) (d := 197) (v := ?_) rfl rfl (by kernel_rfl) (by kernel_rfl) (by kernel_rfl) (by kernel_rfl) (fun _ _ _ _ _ h => h) (by rfl) ?_ (fun _ => hC) ?_
              rotate_left
              · intro w
                go_simp
                try with_reducible rfl
              (try simp only [Act.put, List.setIfInBounds_toArray, List.set_cons_zero, List.set_cons_succ])
              refine takeL0 (i := 10) (d := 198) (v := ?_) rfl rfl (by kernel_rfl) (by kernel_rfl) (by kernel_rfl) (by kernel_rfl) (fun _ _ _ _ _ h => h) (by rfl) ?_ (fun _ => hC) ?_
              rotate_left
              · intro w
                go_simp
                try with_reducible rfl
              (try simp only [Act.put, List.setIfInBounds_toArray, List.set_cons_zero, List.set_cons_succ])
              refine takeL0 (i := 11) (d := 199) (v := ?_) rfl rfl (by kernel_rfl) (by kernel_rfl) (by kernel_rfl) (by kernel_rfl) (fun _ _ _ _ _ h => h) (by rfl) ?_ (fun _ => hC) ?_
              rotate_left
              · intro w
                go_simp
                try with_reducible rfl
              (try simp only [Act.put, List.setIfInBounds_toArray, List.set_cons_zero, List.set_cons_succ])
              refine takeL0 (i := 12) (d := 200) (v := ?_) rfl rfl (by kernel_rfl) (by kernel_rfl) (by kernel_rfl) (by kernel_rfl) (fun _ _ _ _ _ h => h) (by rfl) ?_ (fun _ => hC) ?_
              rotate_left
              · intro w
                go_simp
                try with_reducible rfl
              (try simp only [Act.put, List.setIfInBounds_toArray, List.set_cons_zero, List.set_cons_succ])
              refine takeL0 (i := 14) (d := 202) (v := ?_) rfl rfl (by kernel_rfl) (by kernel_rfl) (by kernel_rfl) (by kernel_rfl) (fun _ _ _ _ _ h => h) (by rfl) ?_ (fun _ => hC) ?_
              rotate_left
              · intro w
                go_simp
                try with_reducible rfl
              (try simp only [Act.put, List.setIfInBounds_toArray, List.set_cons_zero, List.set_cons_succ])
              refine takeL0 (i := 16) (d := 204) (v := ?_) rfl rfl (by kernel_rfl) (by kernel_rfl) (by kernel_rfl) (by kernel_rfl) (fun _ _ _ _ _ h => h) (by rfl) ?_ (fun _ => hC) ?_
              rotate_left
              · intro w
                go_simp
                try with_reducible rfl
              (try simp only [Act.put, List.setIfInBounds_toArray, List.set_cons_zero, List.set_cons_succ])
              refine takeL (i := 13) (d := 201) (v := ?_) rfl rfl (by kernel_rfl) (by kernel_rfl) (by kernel_rfl) (by kernel_rfl) (by kernel_rfl) (by kernel_rfl) (fun _ _ _ _ _ h => h) (by rfl) ?_ hC ?_
              rotate_left
              · intro w hSw
                (try dsimp only at hSw)
                obtain ⟨hS0, hS1, hS2, hS3, hS4, hS5, hS6, hS7, hS8, hS9⟩ := hSw
                go_simp
                try with_reducible rfl
              (try simp only [Act.put, List.setIfInBounds_toArray, List.set_cons_zero, List.set_cons_succ])
              refine takeL (i := 15) (d := 203) (v := ?_) rfl rfl (by kernel_rfl) (by kernel_rfl) (by kernel_rfl) (by kernel_rfl) (by kernel_rfl) (by kernel_rfl) (fun _ _ _ _ _ h => h) (by rfl) ?_ hC ?_
              rotate_left
              · intro w hSw
                (try dsimp only at hSw)
                obtain ⟨hS0, hS1, hS2, hS3, hS4, hS5, hS6, hS7, hS8, hS9⟩ := hSw
                go_simp
                try with_reducible rfl
              (try simp only [Act.put, List.setIfInBounds_toArray, List.set_cons_zero, List.set_cons_succ])
              refine takeL0 (i := 17) (d := 205) (v := ?_) rfl rfl (by kernel_rfl) (by kernel_rfl) (by kernel_rfl) (by kernel_rfl) (fun _ _ _ _ _ h => h) (by rfl) ?_ (fun _ => hC) ?_
              rotate_left
              · intro w
                go_simp
                try with_reducible rfl
              (try simp only [Act.put, List.setIfInBounds_toArray, List.set_cons_zero, List.set_cons_succ])
              refine takeL (i := 18) (d := 206) (v := ?_) rfl rfl (by kernel_rfl) (by kernel_rfl) (by kernel_rfl) (by kernel_rfl) (by kernel_rfl) (by kernel_rfl) (fun _ _ _ _ _ h => h) (by rfl) ?_ hC ?_
              rotate_left
              · intro w hSw
                (try dsimp only at hSw)
                obtain ⟨hS0, hS1, hS2, hS3, hS4, hS5, hS6, hS7, hS8, hS9⟩ := hSw
                go_simp
                try with_reducible rfl
              (try simp only [Act.put, List.setIfInBounds_toArray, List.set_cons_zero, List.set_cons_succ])
              refine takeL0 (i := 19) (d := 207) (v := ?_) rfl rfl (by kernel_rfl) (by kernel_rfl) (by kernel_rfl) (by kernel_rfl) (fun _ _ _ _ _ h => h) (by rfl) ?_ (fun _ => hC) ?_
              rotate_left
              · intro w
                go_simp
                try with_reducible rfl
              (try simp only [Act.put, List.setIfInBounds_toArray, List.set_cons_zero, List.set_cons_succ])
              refine takeL0 (i := 20) (d := 208) (v := ?_) rfl rfl (by kernel_rfl) (by kernel_rfl) (by kernel_rfl) (by kernel_rfl) (fun _ _ _ _ _ h => h) (by rfl) ?_ (fun _ => hC) ?_
              rotate_left
              · intro w
                go_simp
                try with_reducible rfl
              (try simp only [Act.put, List.setIfInBounds_toArray, List.set_cons_zero, List.set_cons_succ])
              refine takeL0 (i := 21) (d := 209) (v := ?_) rfl rfl (by kernel_rfl) (by kernel_rfl) (by kernel_rfl) (by kernel_rfl) (fun _ _ _ _ _ h => h) (by rfl) ?_ (fun _ => hC) ?_
              rotate_left
              · intro w
                go_simp
                try with_reducible rfl
              (try simp only [Act.put, List.setIfInBounds_toArray, List.set_cons_zero, List.set_cons_succ])
              refine takeL0 (i := 22) (d := 210) (v := ?_) rfl rfl (by kernel_rfl) (by kernel_rfl) (by kernel_rfl) (by kernel_rfl) (fun _ _ _ _ _ h => h) (by rfl) ?_ (fun _ => hC) ?_
              rotate_left
              · intro w
                go_simp
                try with_reducible rfl
              (try simp only [Act.put, List.setIfInBounds_toArray, List.set_cons_zero, List.set_cons_succ])
              refine takeL0 (i := 23) (d := 211) (v := ?_) rfl rfl (by kernel_rfl) (by kernel_rfl) (by kernel_rfl) (by kernel_rfl) (fun _ _ _ _ _ h => h) (by rfl) ?_ (fun _ => hC) ?_
              rotate_left
              · intro w
                go_simp
                try with_reducible rfl
              (try simp only [Act.put, List.setIfInBounds_toArray, List.set_cons_zero, List.set_cons_succ])
              refine takeL0 (i := 24) (d := 212) (v := ?_) rfl rfl (by kernel_rfl) (by kernel_rfl) (by kernel_rfl) (by kernel_rfl) (fun _ _ _ _ _ h => h) (by rfl) ?_ (fun _ => hC) ?_
              rotate_left
              · intro w
                go_simp
                try with_reducible rfl
              (try simp only [Act.put, List.setIfInBounds_toArray, List.set_cons_zero, List.set_cons_succ])
              refine takeL0 (i := 26) (d := 214) (v := ?_) rfl rfl (by kernel_rfl) (by kernel_rfl) (by kernel_rfl) (by kernel_rfl) (fun _ _ _ _ _ h => h) (by rfl) ?_ (fun _ => hC) ?_
              rotate_left
              · intro w
                go_simp
                try with_reducible rfl
              (try simp only [Act.put, List.setIfInBounds_toArray, List.set_cons_zero, List.set_cons_succ])
              refine takeL0 (i := 27) (d := 215) (v := ?_) rfl rfl (by kernel_rfl) (by kernel_rfl) (by kernel_rfl) (by kernel_rfl) (fun _ _ _ _ _ h => h) (by rfl) ?_ (fun _ => hC) ?_
              rotate_left
              · intro w
                go_simp
                try with_reducible rfl
              (try simp only [Act.put, List.setIfInBounds_toArray, List.set_cons_zero, List.set_cons_succ])
              refine takeL0 (i := 28) (d := 216) (v := ?_) rfl rfl (by kernel_rfl) (by kernel_rfl) (by kernel_rfl) (by kernel_rfl) (fun _ _ _ _ _ h => h) (by rfl) ?_ (fun _ => hC) ?_
              rotate_left
              · intro w
                go_simp
                try with_reducible rfl
              (try simp only [Act.put, List.setIfInBounds_toArray, List.set_cons_zero, List.set_cons_succ])
              refine takeL (i := 25) (d := 213) (v := ?_) rfl rfl (by kernel_rfl) (by kernel_rfl) (by kernel_rfl) (by kernel_rfl) (by kernel_rfl) (by kernel_rfl) (fun _ _ _ _ _ h => h) (by rfl) ?_ hC ?_
              rotate_left
              · intro w hSw
                (try dsimp only at hSw)
                obtain ⟨hS0, hS1, hS2, hS3, hS4, hS5, hS6, hS7, hS8, hS9⟩ := hSw
                go_simp
                try with_reducible rfl
              (try simp only [Act.put, List.setIfInBounds_toArray, List.set_cons_zero, List.set_cons_succ])
              refine takeL (i := 29) (d := 217) (v := ?_) rfl rfl (by kernel_rfl) (by kernel_rfl) (by kernel_rfl) (by kernel_rfl) (by kernel_rfl) (by kernel_rfl) (fun _ _ _ _ _ h => h) (by rfl) ?_ hC ?_
              rotate_left
              · intro w hSw
                (try dsimp only at hSw)
                obtain ⟨hS0, hS1, hS2, hS3, hS4, hS5, hS6, hS7, hS8, hS9⟩ := hSw
                go_simp
                try with_reducible rfl
              (try simp only [Act.put, List.setIfInBounds_toArray, List.set_cons_zero, List.set_cons_succ])
              refine takeL0 (i := 30) (d := 218) (v := ?_) rfl rfl (by kernel_rfl) (by kernel_rfl) (by kernel_rfl) (by kernel_rfl) (fun _ _ _ _ _ h => h) (by rfl) ?_ (fun _ => hC) ?_
              rotate_left
              · intro w
                go_simp
                try with_reducible rfl
              (try simp only [Act.put, List.setIfInBounds_toArray, List.set_cons_zero, List.set_cons_succ])
              refine takeL0 (i := 31) (d := 219) (v := ?_) rfl rfl (by kernel_rfl) (by kernel_rfl) (by kernel_rfl) (by kernel_rfl) (fun _ _ _ _ _ h => h) (by rfl) ?_ (fun _ => hC) ?_
              rotate_left
              · intro w
                go_simp
                try with_reducible rfl
              (try simp only [Act.put, List.setIfInBounds_toArray, List.set_cons_zero, List.set_cons_succ])
              refine takeL0 (i := 32) (d := 220) (v := ?_) rfl rfl (by kernel_rfl) (by kernel_rfl) (by kernel_rfl) (by kernel_rfl) (fun _ _ _ _ _ h => h) (by rfl) ?_ (fun _ => hC) ?_
              rotate_left
              · intro w
                go_simp
                try with_reducible rfl
              (try simp only [Act.put, List.setIfInBounds_toArray, List.set_cons_zero, List.set_cons_succ])
              refine takeL0 (i := 33) (d := 221) (v := ?_) rfl rfl (by kernel_rfl) (by kernel_rfl) (by kernel_rfl) (by kernel_rfl) (fun _ _ _ _ _ h => h) (by rfl) ?_ (fun _ => hC) ?_
              rotate_left
              · intro w
                go_simp
                try with_reducible rfl
              (try simp only [Act.put, List.setIfInBounds_toArray, List.set_cons_zero, List.set_cons_succ])
              refine takeL0 (i := 34) (d := 222) (v := ?_) rfl rfl (by kernel_rfl) (by kernel_rfl) (by kernel_rfl) (by kernel_rfl) (fun _ _ _ _ _ h => h) (by rfl) ?_ (fun _ => hC) ?_
              rotate_left
              · intro w
                go_simp
                try with_reducible rfl
              (try simp only [Act.put, List.setIfInBounds_toArray, List.set_cons_zero, List.set_cons_succ])
              refine takeL0 (i := 35) (d := 223) (v := ?_) rfl rfl (by kernel_rfl) (by kernel_rfl) (by kernel_rfl) (by kernel_rfl) (fun _ _ _ _ _ h => h) (by rfl) ?_ (fun _ => hC) ?_
              rotate_left
              · intro w
                go_simp
                try with_reducible rfl
              (try simp only [Act.put, List.setIfInBounds_toArray, List.set_cons_zero, List.set_cons_succ])
              refine takeL0 (i := 37) (d := 225) (v := ?_) rfl rfl (by kernel_rfl) (by kernel_rfl) (by kernel_rfl) (by kernel_rfl) (fun _ _ _ _ _ h => h) (by rfl) ?_ (fun _ => hC) ?_
              rotate_left
              · intro w
                go_simp
                try with_reducible rfl
              (try simp only [Act.put, List.setIfInBounds_toArray, List.set_cons_zero, List.set_cons_succ])
              refine takeL0 (i := 39) (d := 227) (v := ?_) rfl rfl (by kernel_rfl) (by kernel_rfl) (by kernel_rfl) (by kernel_rfl) (fun _ _ _ _ _ h => h) (by rfl) ?_ (fun _ => hC) ?_
              rotate_left
              · intro w
                go_simp
                try with_reducible rfl
              (try simp only [Act.put, List.setIfInBounds_toArray, List.set_cons_zero, List.set_cons_succ])
              refine takeL (i := 36) (d := 224) (v := ?_) rfl rfl (by kernel_rfl) (by kernel_rfl) (by kernel_rfl) (by kernel_rfl) (by kernel_rfl) (by kernel_rfl) (fun _ _ _ _ _ h => h) (by rfl) ?_ hC ?_
              rotate_left
              · intro w hSw
                (try dsimp only at hSw)
                obtain ⟨hS0, hS1, hS2, hS3, hS4, hS5, hS6, hS7, hS8, hS9⟩ := hSw
                go_simp
                try with_reducible rfl
              (try simp only [Act.put, List.setIfInBounds_toArray, List.set_cons_zero, List.set_cons_succ])
              refine takeL (i := 38) (d := 226) (v := ?_) rfl rfl (by kernel_rfl) (by kernel_rfl) (by kernel_rfl) (by kernel_rfl) (by kernel_rfl) (by kernel_rfl) (fun _ _ _ _ _ h => h) (by rfl) ?_ hC ?_
              rotate_left
              · intro w hSw
                (try dsimp only at hSw)
                obtain ⟨hS0, hS1, hS2, hS3, hS4, hS5, hS6, hS7, hS8, hS9⟩ := hSw
                go_simp
                try with_reducible rfl
              (try simp only [Act.put, List.setIfInBounds_toArray, List.set_cons_zero, List.set_cons_succ])
              refine takeL (i := 40) (d := 228) (v := ?_) rfl rfl (by kernel_rfl) (by kernel_rfl) (by kernel_rfl) (by kernel_rfl) (by kernel_rfl) (by kernel_rfl) (fun _ _ _ _ _ h => h) (by rfl) ?_ hC ?_
              rotate_left
              · intro w hSw
                (try dsimp only at hSw)
                obtain ⟨hS0, hS1, hS2, hS3, hS4, hS5, hS6, hS7, hS8, hS9⟩ := hSw
                go_simp
                try with_reducible rfl
              (try simp only [Act.put, List.setIfInBounds_toArray, List.set_cons_zero, List.set_cons_succ])
              refine takeL0 (i := 41) (d := 229) (v := ?_) rfl rfl (by kernel_rfl) (by kernel_rfl) (by kernel_rfl) (by kernel_rfl) (fun _ _ _ _ _ h => h) (by rfl) ?_ (fun _ => hC) ?_
              rotate_left
              · intro w
                go_simp
                try with_reducible rfl
              (try simp only [Act.put, List.setIfInBounds_toArray, List.set_cons_zero, List.set_cons_succ])
              refine takeL0 (i := 42) (d := 230) (v := ?_) rfl rfl (by kernel_rfl) (by kernel_rfl) (by kernel_rfl) (by kernel_rfl) (fun _ _ _ _ _ h => h) (by rfl) ?_ (fun _ => hC) ?_
              rotate_left
              · intro w
                go_simp
                try with_reducible rfl
              (try simp only [Act.put, List.setIfInBounds_toArray, List.set_cons_zero, List.set_cons_succ])
              refine takeL0 (i := 43) (d := 231) (v := ?_) rfl rfl (by kernel_rfl) (by kernel_rfl) (by kernel_rfl) (by kernel_rfl) (fun _ _ _ _ _ h => h) (by rfl) ?_ (fun _ => hC) ?_
              rotate_left
              · intro w
                go_simp
                try with_reducible rfl
              (try simp only [Act.put, List.setIfInBounds_toArray, List.set_cons_zero, List.set_cons_succ])
              refine anyL_done (by kernel_rfl) ?_ _
              refine NoPanic.normal ?_
              clear hC hT
              go_wp2_with fail
              go_roundw
              case rel => exact ⟨h + 1, by omega, by go_num, (H15.out.drop (qs := [_]))⟩
              case measure => simp [intOf]; omega
            · obtain rfl : h = rooms.length := by omega
              have HPL := Lib.hid HR.out.ge
              clear HR H12
              go_wp2_with fail
              refine (awake_any wr).mono ?_
              rintro e w6 ⟨rfl, hb6⟩
              go_wp2_with fail
              go_ret
              exact ⟨rfl, HPL.out.trans (hb6.mono HPL.out.size)⟩
end Go.Proofs.Ytnhifinfjfpoiaa

namespace Go.Proofs.Ytnhifinfjfpoiaa
open Go.RowKit Go.ChangeShapes Go.WideShapes Go.ChangeAt

theorem ownKnob_none : ownKnob Try.prog.godebug = none := by kernel_rfl
theorem laidOut_yes : laidOutB Try.prog = true := by kernel_rfl

set_option maxRecDepth 100000 in
theorem ratCounted_lifted (os : Os) (started : os.Started) (H : Type) (enc : TypeId × Value → H) :
    ReturnsInHanded {} Try.checked os 15 .any (Rows.ratCountedSpec.pre6 enc Try.prog Try.f15 Rows.ratCountedRow.domain false) (Rows.ratCountedSpec.post enc Try.prog Try.f15 false true false false) := by
  refine returnsInHanded_of_change_sized (C := Try.checked) ownKnob_none started (by kernel_rfl) Try.func15
    (ChangeSpec.witness6 (enc := enc) (C := Try.checked) false ⟨#[], #[.slice none 0 0], []⟩ 8 (by kernel_rfl) (by kernel_rfl) (by kernel_rfl) (by kernel_rfl)) ?_
  intro W base args ds gs before hval0 hW0 _ hsz0 _
  have hval : ∀ (j : Nat) t v, Try.f15.params[j]? = some t → args[j]? = some v → Value.okWide Try.prog W .any base t v := hval0
  have hsz : (DataW.weightsEach Try.prog (Try.f15.params.toList ++ Rows.ratCountedSpec.plain.varTypes Try.prog) (ds ++ gs)).all (· ≤ reachBytes) = true := hsz0
  have hW := hW0
  obtain ⟨p, q, hA0, hV, rfl, hfz, hnd⟩ := hW
  have hA : DataW.TrodAll enc Try.prog W 0 (fun _ => true) true Try.f15.params.toList args.toList ds p := hA0
  rw [Try.params15] at hA hval hsz
  obtain ⟨v0, d0, rfl, rfl, h0⟩ := trodAll_one hA
  obtain ⟨rfl, rfl⟩ := trodVars_none hV
  have k0 := h0
  obtain ⟨b0, hb0⟩ := open_bytes (hval 0 _ v0 rfl rfl) h0 (fun m hm => by
    have := List.all_eq_true.1 hsz m (DataW.weights_mem_each (j := 0) rfl rfl m hm)
    simpa using this)
  refine (ratCounted_any v0 b0 W hb0).mono fun e W' ⟨he, hb⟩ => ?_
  subst he
  have hlt0 : ∀ x ∈ p, x.block < W.heap.size := fun x hx => hW0.lt x (by simp [hx])
  have s0 := Below.trod laidOut_yes (by kernel_rfl) (of_decide_eq_true (by kernel_rfl)) k0 hb hlt0
  exact ⟨_, rfl, _, _, _, [], _, _, hW0, trodAll_mk1 (shut_bool Try.underlying4 true), trodAll_mk1 s0, rfl, hb.frame _, fun h => by cases h⟩

theorem ratCounted_holds : Rows.RatCountedSaid :=
  OpenClaim.holds_of_wide 15 Try.f15 rfl rfl rfl rfl rfl rfl rfl ⟨rfl, rfl, rfl, rfl, rfl⟩ rfl rfl rfl rfl rfl (by kernel_rfl) Try.func15 (by kernel_rfl)
    (of_decide_eq_true (by kernel_rfl)) (by unfold Func.isWrapper; first | (rw [if_pos (by decide +kernel)]; kernel_rfl) | (rw [if_neg (by decide +kernel)]; exact ⟨rfl, rfl⟩))
    (fun os started H enc _ => ratCounted_lifted os started H enc)
end Go.Proofs.Ytnhifinfjfpoiaa
