/- RatMore holds: for whatever bytes and number the law answers true, and what came in reads as it read before. No condition is laid on the arguments beyond the form's own reach. -/
import Derived.Test.YtnhifinfjfpoiaaK11
import Derived.Test.YtnhifinfjfpoiaaK13
import Derived.Test.YtnhifinfjfpoiaaK15
import Derived.Test.YtnhifinfjfpoiaaK18
import Derived.Test.YtnhifinfjfpoiaaK20
import Derived.Test.YtnhifinfjfpoiaaK19
import Derived.Test.YtnhifinfjfpoiaaK08
import Derived.Test.YtnhifinfjfpoiaaRows
import Derived.Test.YtnhifinfjfpoiaaK12
namespace Go.Proofs.Ytnhifinfjfpoiaa
open Go.RowKit
set_option linter.unusedVariables false
set_option linter.unusedSimpArgs false

/-- A colony in its box, a chute, and two copies of the colony in their boxes. -/
def twoParts (b5 p2 : Nat) (v2 : Value) (xs2 : List Int) (B : Nat) (r t u nn : Value) (n : Nat) (rooms traps : List Int) (rs : List (Int × Int)) (nb : Nat → Nat) (N : List (List Int))
    (b1 b2 : Nat) (r1 t1 u1 n1 r2 t2 u2 n2 : Value) (A1 A2 A3 A4 D1 D2 D3 D4 : Nat) (nb1 nb2 : Nat → Nat) (c1 c2 : Col) : List Part :=
  madeCol b5 p2 v2 xs2 B r t u nn n rooms traps rs nb N ++ [pBlk b1 26 #[r1, t1, u1, n1], pBlk b2 26 #[r2, t2, u2, n2]] ++ ownParts A1 A2 A3 A4 n r1 t1 u1 n1 nb1 c1 ++ ownParts D1 D2 D3 D4 n r2 t2 u2 n2 nb2 c2
/-- Behind both copies. -/
def TwoBegin (w : World) (b5 p2 : Nat) (v2 : Value) (xs2 : List Int) (b1 b2 : Nat) (W : World) : Prop :=
  ∃ n B r0 qr t0 qt u0 qu n0 qn rooms traps rs nb N g1 c1 t1 s1 u1 x1 m1 y1 g2 c2 t2 s2 u2 x2 m2 y2 A1 A2 A3 A4 D1 D2 D3 D4 nb1 nb2, 0 < n ∧ n ≤ c1 ∧ n ≤ c2 ∧ rooms.length = n ∧ rs.length ≤ 10 ∧ (∀ i, i < n → 0 ≤ nth rooms i ∧ nth rooms i ≤ 8) ∧ fitErr ⟨rooms, traps, rs, N⟩ = 0 ∧ A1 ≤ W.heap.size ∧ D3 ≤ W.heap.size ∧
    PW w W (twoParts b5 p2 v2 xs2 B (.slice r0 n qr) (.slice t0 n qt) (.slice u0 rs.length qu) (.slice n0 N.length qn) n rooms traps rs nb N b1 b2
      (.slice (some ⟨g1, 0, none⟩) n c1) (.slice t1 n s1) (.slice u1 rs.length x1) (.slice m1 N.length y1) (.slice (some ⟨g2, 0, none⟩) n c2) (.slice t2 n s2) (.slice u2 rs.length x2) (.slice m2 N.length y2) A1 A2 A3 A4 D1 D2 D3 D4 nb1 nb2 ⟨rooms, traps, rs, N⟩ ⟨rooms, traps, rs, N⟩)
def Box4r (b11 b5 g1 n : Nat) (rv cv : Value) (f : Nat → Int) (W : World) : Prop := W.cell? ⟨b11, 0, none⟩ = some rv ∧ W.cell? ⟨b5, 0, none⟩ = some cv ∧ ∀ j, j < n → W.cell? ⟨g1, j, none⟩ = some (.int .i64 (f j))
theorem row_cell {W : World} {B n g c j : Nat} {l : List Int} (h : (pRow B 3 1 n (.slice (some ⟨g, 0, none⟩) n c) (intsV l)).told W) (hl : l.length = n) (hj : j < n) : W.cell? ⟨g, j, none⟩ = some (.int .i64 (nth l j)) := by
  have := World.ownsRow.cellAt h j (by omega)
  rw [this, nth_eq (by omega)]
  simp [intsV]
theorem store_box2 (W : World) (b ty : Nat) (x0 x1 : Value) (x y : Int) (h : W.heap[b]? = some (.cells #[x0, x1] ty (0, 0))) :
    (Instr.storeAt 63 (.pointer (some ⟨b, 0, none⟩)) (.agg #[.int .i64 x, .int .i64 y])).run Try.prog W = .ok () ((W.setCell ⟨b, 0, none⟩ (.int .i64 x)).setCell ⟨b, 1, none⟩ (.int .i64 y)) := by
  have h1 := heap_setCell_same W b 0 _ _ (.int .i64 x) h
  have z0 := (two_at h).1
  have z1 := (two_at h1).2
  have f0 := frozen_of_row _ b 0 _ _ h
  have f1 := frozen_of_row _ b 1 _ _ h1
  clear h h1
  simp (maxSteps := 3000000) [go_sem, z0, z1, f0, f1]
/-- What the law asks of a colony with more. -/
structure MoreLaw (n : Nat) (C O : Col) : Prop where
  fit : fitErr O = 0
  lo : (ratsC O).1 = (ratsC C).1
  hi : (ratsC C).2 ≤ (ratsC O).2
  lenR : O.rooms.length = n
  lenA : (afterC O).length = n
  lenN : (needC O).length = n
  each : ∀ h, h < n → nth (afterC C) h ≤ nth (afterC O) h ∧ nth (needC C) h ≤ nth (needC O) h
theorem more_law {n : Nat} {C O : Col} (I : MoreCol C O) (hk : fitErr C = 0) (hd : checkC O = 0) (hl : C.rooms.length = n) : MoreLaw n C O := by
  obtain ⟨a, b, c, d, e, f⟩ := I.law hk hd
  subst hl
  exact ⟨a, b, c, I.len, d.trans (afterTo_len _ _), e.trans (needTo_len _ _), f⟩
/-- What the law keeps in mind of memory behind the answers about the colony. -/
structure MdAt (w : World) (ps : List Part) (av dv : Value) (A D : List Int) (W : World) : Prop where
  pw : PW w W ps
  after : IsInts W W.heap.size av A
  need : IsInts W W.heap.size dv D
theorem MdAt.below {w W W' : World} {ps : List Part} {av dv : Value} {A D : List Int} (h : MdAt w ps av dv A D W) (hb : Below W.heap.size W W') : MdAt w ps av dv A D W' :=
  ⟨h.pw.below hb, (h.after.below hb (Nat.le_refl _)).mono hb.size, (h.need.below hb (Nat.le_refl _)).mono hb.size⟩
theorem MdAt.newBlk {w W : World} {ps : List Part} {av dv : Value} {A D : List Int} (h : MdAt w ps av dv A D W) (t : Nat) (cs : Array Value) : MdAt w (ps ++ [pBlk W.heap.size t cs]) av dv A D (W.alloc (.cells cs t)) := by
  have k := h.below (W' := W.alloc (.cells cs t)) ((Below.refl _ _).alloc (Nat.le_refl _) _)
  exact ⟨h.pw.newBlk t cs, k.after, k.need⟩
theorem MdAt.same {w W : World} {ps qs : List Part} {av dv : Value} {A D : List Int} (h : MdAt w ps av dv A D W) (e : ps = qs) : MdAt w qs av dv A D W := e ▸ h
theorem MdAt.drop {w W : World} {ps qs : List Part} {av dv : Value} {A D : List Int} (h : MdAt w (ps ++ qs) av dv A D W) : MdAt w ps av dv A D W := ⟨h.pw.left, h.after, h.need⟩
theorem MdAt.drew {w W : World} {ps : List Part} {av dv : Value} {A D : List Int} (h : MdAt w ps av dv A D W) : MdAt w ps av dv A D W.drew := h.below (W' := W.drew) (Below.refl _ _).drew
def Box22 (ba oa bd od ga gd h : Nat) (x y u v : Int) (W : World) : Prop := W.cell? ⟨ba, oa, none⟩ = some (.int .i64 x) ∧ W.cell? ⟨ga, h, none⟩ = some (.int .i64 u) ∧ W.cell? ⟨bd, od, none⟩ = some (.int .i64 y) ∧ W.cell? ⟨gd, h, none⟩ = some (.int .i64 v)
theorem TwoBegin.mk {w W : World} {b5 p2 : Nat} {v2 : Value} {xs2 : List Int} {b1 b2 B q1 q2 q3 q4 : Nat} {a1 a2 a3 a4 : Option Addr} {rooms traps : List Int} {rs : List (Int × Int)} {nb : Nat → Nat} {N : List (List Int)} {g1 c1 s1 x1 y1 g2 c2 s2 x2 y2 A1 A2 A3 A4 D1 D2 D3 D4 : Nat} {t1 u1 m1 t2 u2 m2 : Option Addr} {nb1 nb2 : Nat → Nat}
    (h0 : 0 < rooms.length) (hc1 : rooms.length ≤ c1) (hc2 : rooms.length ≤ c2) (hr : rs.length ≤ 10) (hm : ∀ i, i < rooms.length → 0 ≤ nth rooms i ∧ nth rooms i ≤ 8) (hf : fitErr ⟨rooms, traps, rs, N⟩ = 0) (hA : A1 ≤ W.heap.size) (hD : D3 ≤ W.heap.size)
    (h : PW w W (twoParts b5 p2 v2 xs2 B (.slice a1 rooms.length q1) (.slice a2 rooms.length q2) (.slice a3 rs.length q3) (.slice a4 N.length q4) rooms.length rooms traps rs nb N b1 b2
      (.slice (some ⟨g1, 0, none⟩) rooms.length c1) (.slice t1 rooms.length s1) (.slice u1 rs.length x1) (.slice m1 N.length y1) (.slice (some ⟨g2, 0, none⟩) rooms.length c2) (.slice t2 rooms.length s2) (.slice u2 rs.length x2) (.slice m2 N.length y2) A1 A2 A3 A4 D1 D2 D3 D4 nb1 nb2 ⟨rooms, traps, rs, N⟩ ⟨rooms, traps, rs, N⟩)) : Hid (TwoBegin w b5 p2 v2 xs2 b1 b2 W) :=
  ⟨rooms.length, B, a1, q1, a2, q2, a3, q3, a4, q4, rooms, traps, rs, nb, N, g1, c1, t1, s1, u1, x1, m1, y1, g2, c2, t2, s2, u2, x2, m2, y2, A1, A2, A3, A4, D1, D2, D3, D4, nb1, nb2, h0, hc1, hc2, rfl, hr, hm, hf, hA, hD, h⟩
set_option maxRecDepth 100000 in
set_option maxHeartbeats 40000000 in
theorem ratMore_any (v1 v2 : Value) (xs1 xs2 : List Int) (which : Int) (w : World) (h1 : IsBytes w w.heap.size v1 xs1) (h2 : IsBytes w w.heap.size v2 xs2) :
    Calls Try.prog 5 #[v1, v2, .int .i64 which] w fun e w' => e = .returned (.bool true) ∧ Below w.heap.size w w' := by
  have HB := Lib.hid (And.intro h1 h2)
  clear h1 h2
  go_enter Try.func5, Try.ntmps5
  go_wp2_with fail
  refine (fill_any v1 xs1 w HB.out.1).mono ?_
  rintro e w1 ⟨rfl, hc1, hb1, hz1⟩
  have HP1 := Lib.hid ((PW.start w).fill hc1 hb1)
  obtain ⟨p1, hp1⟩ : ∃ p1, w.heap.size = p1 := ⟨_, rfl⟩
  have hP1 := HP1.out
  rw [hp1] at hP1
  have HP1 := Lib.hid hP1
  rw [hp1]
  clear hc1 hb1 hz1 hP1 hp1
  go_wp2_with fail
  refine (made_any p1 v1 xs1 5 4 w1 (HP1.out.chute 0 rfl HB.out.1) (by omega) (by omega)).mono ?_
  rintro e w2 ⟨r, t, u, nv, cv, lv, fv, rooms, traps, rs, k, N, T, M, L, left, rfl, hI, hcol, hT, hL, hF, hc2, ht2, nbN, nbT, bL, Lf, rfl, hLf, hsep⟩
  have HI := Lib.hid hI
  have HP2 := Lib.hid (((HP1.out.made 0 rfl hc2 ht2 hsep).newBlk 26 #[r, t, u, nv]).newBlk 55 #[cv, .slice (some ⟨bL, 0, none⟩) rooms.length rooms.length])
  have hn0 : 0 < rooms.length := hI.made.many.1
  have hn5 : (rooms.length : Int) ≤ 5 := hI.few
  obtain ⟨ar, qr, rfl⟩ := owns_slice (hsep.at 0 rfl)
  obtain ⟨at_, qt, rfl⟩ := owns_slice (hsep.at 1 rfl)
  obtain ⟨au, qu, rfl⟩ := owns_slice (hsep.at 2 rfl)
  obtain ⟨⟨fsN, hoN, qx1⟩, qx2⟩ : (pRows w1.heap.size rooms.length nv nbN N).told w2 := hsep.at 3 rfl
  obtain ⟨⟨fsT, hoT, qx3⟩, qx4⟩ : (pRows w1.heap.size rooms.length cv nbT T).told w2 := hsep.at 4 rfl
  clear qx1 qx2 qx3 qx4
  obtain ⟨an, qn, rfl⟩ := owns_slice hoN
  obtain ⟨ac, qc, rfl⟩ := owns_slice hoT
  obtain ⟨al, ql, rfl⟩ := owns_slice (hsep.at 6 rfl)
  have HC2 := Lib.hid hcol
  clear hI hcol hT hL hF hc2 ht2 hLf hsep hoN hoT
  go_wp2_with fail
  obtain ⟨W3, hW3⟩ : ∃ W3, (w2.alloc (.cells #[.slice ar rooms.length qr, .slice at_ rooms.length qt, .slice au rs.length qu, .slice an N.length qn] 26)).alloc (.cells #[.slice ac T.length qc, .slice (some ⟨bL, 0, none⟩) rooms.length rooms.length] 55) = W3 := ⟨_, rfl⟩
  obtain ⟨b5, hb5⟩ : ∃ b5, w2.heap.size = b5 := ⟨_, rfl⟩
  have hP2 := HP2.out
  have hcol3 : ColAt W3 W3.heap.size (.slice ar rooms.length qr) (.slice at_ rooms.length qt) (.slice au rs.length qu) (.slice an N.length qn) ⟨rooms, traps, rs, N⟩ := by
    rw [← hW3]
    exact (HC2.out.below (((Below.refl _ _).alloc (Nat.le_refl _) _).alloc (by simp) _) (Nat.le_refl _)).mono (by simp; omega)
  rw [hW3, hb5] at hP2
  rw [hW3]
  have HP3 := Lib.hid hP2
  have HC3 := Lib.hid hcol3
  have hb6 : ∃ b6, w2.heap.size + 1 = b6 := ⟨_, rfl⟩
  obtain ⟨b6, hb6⟩ := hb6
  rw [hb5] at hb6
  rw [hb5]
  (try rw [hb6])
  clear hW3 hP2 hcol3 HC2 HP2 hb5
  refine (fill_any v2 xs2 W3 ⟨(HB.out.2.1.below HP3.out.low (Nat.le_refl _)).mono HP3.out.size, HB.out.2.2⟩).mono ?_
  rintro e w4 ⟨rfl, hc4, hb4, hz4⟩
  have HP4 := Lib.hid (HP3.out.fill hc4 hb4)
  have HC4 := Lib.hid ((HC3.out.below hb4 (Nat.le_refl _)).mono hb4.size)
  obtain ⟨p2, hp2⟩ : ∃ p2, W3.heap.size = p2 := ⟨_, rfl⟩
  rw [hp2] at HP4 ⊢
  have HFE := Lib.hid (HI.out.fitErr (by omega))
  have HOK := Lib.hid (show OwnOk rooms.length ⟨rooms, traps, rs, N⟩ from ⟨hn0, rfl, HI.out.made.trapN, by have := HI.out.made.few; show rs.length ≤ 100; omega, by have := HI.out.caught.lenN; have := HI.out.nights; show N.length ≤ 100; omega, by have := HI.out.made.many.2; omega, fun j hj => HI.out.caught.rowN j (by rw [← HI.out.caught.lenN]; exact hj)⟩)
  have hr10 : rs.length ≤ 10 := by have := HI.out.run2; omega
  have HRM := Lib.hid HI.out.made.roomB
  have HCK := Lib.hid (HI.out.check (by omega))
  have HM0 := Lib.hid (HP4.out.pick (ps' := madeCol b5 p2 v2 xs2 w1.heap.size (.slice ar rooms.length qr) (.slice at_ rooms.length qt) (.slice au rs.length qu) (.slice an N.length qn) rooms.length rooms traps rs nbN N) [8, 10, 1, 2, 3, 4] (by decide) rfl)
  clear hc4 hb4 hz4 hp2 HP3 HC3 HC4 HP4 HP1 hb6
  go_upto_region 3 with (fail)
  go_cut [11, 12] (fun s11 s12 wx => ∃ b1 b2, s11 = .pointer (some ⟨b1, 0, none⟩) ∧ s12 = .pointer (some ⟨b2, 0, none⟩) ∧ Hid (TwoBegin w b5 p2 v2 xs2 b1 b2 wx))
  case first =>
    as_aux_lemma =>
      have HD := Lib.hid HM0.out.drew
      have HCOL : Hid (∀ W ps, PW w W ps → ps[2]? = some (pRow w1.heap.size 3 1 rooms.length (.slice ar rooms.length qr) (intsV rooms)) → ps[3]? = some (pRow w1.heap.size 3 1 rooms.length (.slice at_ rooms.length qt) (intsV traps)) → ps[4]? = some (pRow w1.heap.size 63 2 rs.length (.slice au rs.length qu) (pairsV rs)) → ps[5]? = some (pRows w1.heap.size rooms.length (.slice an N.length qn) nbN N) → ColAt W W.heap.size (.slice ar rooms.length qr) (.slice at_ rooms.length qt) (.slice au rs.length qu) (.slice an N.length qn) ⟨rooms, traps, rs, N⟩) := fun W ps H e2 e3 e4 e5 =>
        made_read HCK.out rfl (H.at 2 e2) (H.at 3 e3) (H.at 4 e4) (H.at 5 e5)
      have hC : BoxCol b5 (.slice ar rooms.length qr) (.slice at_ rooms.length qt) (.slice au rs.length qu) (.slice an N.length qn) w4.drew := boxCol_of (HD.out.at 0 rfl)
      generalize Value.tuple _ = q33
      generalize Value.agg #[Value.slice ar _ _, _, _, _] = q37
      generalize Value.agg #[Value.slice ac _ _, _] = q38
      refine wp_region_noPanic ?_
      refine anyL_start (S := Till [7] (BoxCol b5 (.slice ar rooms.length qr) (.slice at_ rooms.length qt) (.slice au rs.length qu) (.slice an N.length qn))) (by kernel_rfl) (fun _ => hC) (fun hT => ?_)
      refine takeL (i := 0) (d := 42) (v := ?_) rfl rfl (by kernel_rfl) (by kernel_rfl) (by kernel_rfl) (by kernel_rfl) (by kernel_rfl) (by kernel_rfl) (fun _ _ _ _ _ h => h) (by rfl) ?_ hC ?_
      rotate_left
      · intro w hSw
        (try dsimp only at hSw)
        obtain ⟨hS0, hS1, hS2, hS3⟩ := hSw
        go_simp
        try with_reducible rfl
      (try simp only [Act.put, List.setIfInBounds_toArray, List.set_cons_zero, List.set_cons_succ])
      refine takeL (i := 2) (d := 44) (v := ?_) rfl rfl (by kernel_rfl) (by kernel_rfl) (by kernel_rfl) (by kernel_rfl) (by kernel_rfl) (by kernel_rfl) (fun _ _ _ _ _ h => h) (by rfl) ?_ hC ?_
      rotate_left
      · intro w hSw
        (try dsimp only at hSw)
        obtain ⟨hS0, hS1, hS2, hS3⟩ := hSw
        go_simp
        try with_reducible rfl
      (try simp only [Act.put, List.setIfInBounds_toArray, List.set_cons_zero, List.set_cons_succ])
      refine someL (rs := [1, 4, 5]) (by kernel_rfl) (by simp) (all_cons ?_ (all_cons ?_ (all_cons ?_ all_nil)))
      · refine pickW (i := 1) rfl (by rfl) (fun K hK => ?_)
        go_simp
        refine (ownSep_any rooms.length ⟨rooms, traps, rs, N⟩ _ _ _ _ _ (HCOL.out _ _ HD.out rfl rfl rfl rfl) HOK.out).mono ?_
        rintro e WX1 ⟨ra, ta, ua, na, A1, A2, A3, A4, nba, rfl, hA1, hA2, hA3, hA4, hsA, hbA⟩
        have HX1 := Lib.hid (HD.out.both hbA hsA)
        obtain ⟨ga, ca, rfl, hca, _⟩ := int_row_cells (hsA.at 0 rfl) rfl hn0
        obtain ⟨ta1, ta2, rfl⟩ := owns_slice (hsA.at 1 rfl)
        obtain ⟨ua1, ua2, rfl⟩ := owns_slice (hsA.at 2 rfl)
        obtain ⟨⟨⟨fsa, hoa, qx1⟩, qx2⟩, qx3⟩ : (pRowsI A4 rooms.length na nba N).told WX1 := hsA.at 3 rfl
        clear qx1 qx2 qx3
        obtain ⟨na1, na2, rfl⟩ := owns_slice hoa
        have hzO := hbA.size
        clear hC hsA hbA hoa
        have hC := boxCol_of (HX1.out.at 0 rfl)
        go_simp
        have HA := Lib.hid (And.intro hA1 hzO)
        have HCA := Lib.hid hca
        clear hA1 hA2 hA3 hA4 hca hzO
        refine hK.out _ _ (fun _ => hC) ?_
        clear hK K
        (try simp only [Act.put, List.setIfInBounds_toArray, List.set_cons_zero, List.set_cons_succ])
        refine someL (rs := [3, 4, 5]) (by kernel_rfl) (by simp) (all_cons ?_ (all_cons ?_ (all_cons ?_ all_nil)))
        · refine pickW (i := 3) rfl (by rfl) (fun K hK => ?_)
          go_simp
          refine (ownSep_any rooms.length ⟨rooms, traps, rs, N⟩ _ _ _ _ _ (HCOL.out _ _ HX1.out rfl rfl rfl rfl) HOK.out).mono ?_
          rintro e WX2 ⟨rd, td, ud, nd, D1, D2, D3, D4, nbd, rfl, hD1, hD2, hD3, hD4, hsD, hbD⟩
          have HX2 := Lib.hid (HX1.out.both hbD hsD)
          obtain ⟨gd, cd, rfl, hcd, _⟩ := int_row_cells (hsD.at 0 rfl) rfl hn0
          obtain ⟨td1, td2, rfl⟩ := owns_slice (hsD.at 1 rfl)
          obtain ⟨ud1, ud2, rfl⟩ := owns_slice (hsD.at 2 rfl)
          obtain ⟨⟨⟨fsd, hod, qx1⟩, qx2⟩, qx3⟩ : (pRowsI D4 rooms.length nd nbd N).told WX2 := hsD.at 3 rfl
          clear qx1 qx2 qx3
          obtain ⟨nd1, nd2, rfl⟩ := owns_slice hod
          have hzA := hbD.size
          clear hC hsD hbD hod
          have hC := boxCol_of (HX2.out.at 0 rfl)
          go_simp
          have HDD := Lib.hid (And.intro hD3 hzA)
          have HCD := Lib.hid hcd
          clear hD1 hD2 hD3 hD4 hcd hzA
          refine hK.out _ _ (fun _ => hC) ?_
          clear hK K
          (try simp only [Act.put, List.setIfInBounds_toArray, List.set_cons_zero, List.set_cons_succ])
          refine someL (rs := [4, 5]) (by kernel_rfl) (by simp) (all_cons ?_ (all_cons ?_ all_nil))
          · refine pickW (i := 4) rfl (by rfl) (fun K hK => ?_)
            go_simp
            have HX30 := HX2.out.newBlk 26 #[.slice none 0 0, .slice none 0 0, .slice none 0 0, .slice none 0 0]
            (try simp only [World.size_alloc, World.size_drew, World.alloc_drew] at HX30)
            generalize hWB : World.alloc _ _ = WX3 at HX30 ⊢
            have hzB := congrArg (fun v : World => v.heap.size) hWB
            (try simp only [World.size_alloc, World.size_drew, World.alloc_drew] at hzB)
            have HB4 := Lib.hid hzB
            clear hzB
            have HX3 := Lib.hid HX30
            clear HX30 hWB
            clear hC
            have hC := boxCol_of (HX3.out.at 0 rfl)
            refine hK.out _ _ (fun _ => hC) ?_
            clear hK K
            (try simp only [Act.put, List.setIfInBounds_toArray, List.set_cons_zero, List.set_cons_succ])
            refine nextW (i := 5) rfl (by kernel_rfl) (by rfl) (fun K hK => ?_)
            go_simp
            have HX40 := HX3.out.newBlk 26 #[.slice none 0 0, .slice none 0 0, .slice none 0 0, .slice none 0 0]
            (try simp only [World.size_alloc, World.size_drew, World.alloc_drew] at HX40)
            generalize hWB : World.alloc _ _ = WX4 at HX40 ⊢
            have hzB := congrArg (fun v : World => v.heap.size) hWB
            (try simp only [World.size_alloc, World.size_drew, World.alloc_drew] at hzB)
            have HB5 := Lib.hid hzB
            clear hzB
            have HX4 := Lib.hid HX40
            clear HX40 hWB
            clear hC
            have hC := boxCol_of (HX4.out.at 0 rfl)
            refine hK.out _ _ (fun _ => hC) ?_
            clear hK K
            (try simp only [Act.put, List.setIfInBounds_toArray, List.set_cons_zero, List.set_cons_succ])
            refine nextW (i := 6) rfl (by kernel_rfl) (by rfl) (fun K hK => ?_)
            have st := store_col _ _ _ _ _ _ _ (some ⟨ga, 0, none⟩) ta1 ua1 na1 rooms.length ca rooms.length ta2 rs.length ua2 N.length na2 (HX4.out.at 14 rfl)
            have HX5 := Lib.hid ((((HX4.out.setBlk 14 rfl 0 (.slice (some ⟨ga, 0, none⟩) rooms.length ca)).setBlk 14 rfl 1 (.slice ta1 rooms.length ta2)).setBlk 14 rfl 2 (.slice ua1 rs.length ua2)).setBlk 14 rfl 3 (.slice na1 N.length na2))
            refine op_store rfl rfl rfl st ?_
            clear st hC
            have hC := boxCol_of (HX5.out.at 0 rfl)
            refine hK.out _ _ (fun _ => hC) ?_
            clear hK K
            (try simp only [Act.put, List.setIfInBounds_toArray, List.set_cons_zero, List.set_cons_succ])
            refine nextW (i := 7) rfl (by kernel_rfl) (by rfl) (fun K hK => ?_)
            have st := store_col _ _ _ _ _ _ _ (some ⟨gd, 0, none⟩) td1 ud1 nd1 rooms.length cd rooms.length td2 rs.length ud2 N.length nd2 (HX5.out.at 15 rfl)
            have HX6 := Lib.hid ((((HX5.out.setBlk 15 rfl 0 (.slice (some ⟨gd, 0, none⟩) rooms.length cd)).setBlk 15 rfl 1 (.slice td1 rooms.length td2)).setBlk 15 rfl 2 (.slice ud1 rs.length ud2)).setBlk 15 rfl 3 (.slice nd1 N.length nd2))
            refine op_store rfl rfl rfl st ?_
            clear st hC
            refine hK.out _ _ (Till.done (by kernel_rfl)) ?_
            clear hK K
            (try simp only [Act.put, List.setIfInBounds_toArray, List.set_cons_zero, List.set_cons_succ])
            refine anyL_done (by kernel_rfl) ?_ _
            refine NoPanic.normal ?_
            have HF := Lib.hid (HX6.out.pick (ps' := twoParts b5 p2 v2 xs2 w1.heap.size (.slice ar rooms.length qr) (.slice at_ rooms.length qt) (.slice au rs.length qu) (.slice an N.length qn) rooms.length rooms traps rs nbN N (WX2.heap.size) (WX3.heap.size)
              (.slice (some ⟨ga, 0, none⟩) rooms.length ca) (.slice ta1 rooms.length ta2) (.slice ua1 rs.length ua2) (.slice na1 N.length na2) (.slice (some ⟨gd, 0, none⟩) rooms.length cd) (.slice td1 rooms.length td2) (.slice ud1 rs.length ud2) (.slice nd1 N.length nd2) A1 A2 A3 A4 D1 D2 D3 D4 nba nbd ⟨rooms, traps, rs, N⟩ ⟨rooms, traps, rs, N⟩)
              [0, 1, 2, 3, 4, 5, 14, 15, 6, 7, 8, 9, 10, 11, 12, 13] (by decide) (by kernel_rfl))
            go_wp2_with fail
            go_meet
            have e1 := HA.out
            have e2 := HDD.out
            have e3 := HB4.out
            have e4 := HB5.out
            (try simp only [World.size_alloc, World.size_drew, World.alloc_drew] at e1 e2 e3 e4)
            exact ⟨_, _, rfl, rfl, TwoBegin.mk hn0 HCA.out HCD.out hr10 HRM.out HFE.out (by simp; omega) (by simp; omega) HF.out⟩
          · refine pickW (i := 5) rfl (by rfl) (fun K hK => ?_)
            go_simp
            have HX30 := HX2.out.newBlk 26 #[.slice none 0 0, .slice none 0 0, .slice none 0 0, .slice none 0 0]
            (try simp only [World.size_alloc, World.size_drew, World.alloc_drew] at HX30)
            generalize hWB : World.alloc _ _ = WX3 at HX30 ⊢
            have hzB := congrArg (fun v : World => v.heap.size) hWB
            (try simp only [World.size_alloc, World.size_drew, World.alloc_drew] at hzB)
            have HB5 := Lib.hid hzB
            clear hzB
            have HX3 := Lib.hid HX30
            clear HX30 hWB
            clear hC
            have hC := boxCol_of (HX3.out.at 0 rfl)
            refine hK.out _ _ (fun _ => hC) ?_
            clear hK K
            (try simp only [Act.put, List.setIfInBounds_toArray, List.set_cons_zero, List.set_cons_succ])
            refine nextW (i := 4) rfl (by kernel_rfl) (by rfl) (fun K hK => ?_)
            go_simp
            have HX40 := HX3.out.newBlk 26 #[.slice none 0 0, .slice none 0 0, .slice none 0 0, .slice none 0 0]
            (try simp only [World.size_alloc, World.size_drew, World.alloc_drew] at HX40)
            generalize hWB : World.alloc _ _ = WX4 at HX40 ⊢
            have hzB := congrArg (fun v : World => v.heap.size) hWB
            (try simp only [World.size_alloc, World.size_drew, World.alloc_drew] at hzB)
            have HB4 := Lib.hid hzB
            clear hzB
            have HX4 := Lib.hid HX40
            clear HX40 hWB
            clear hC
            have hC := boxCol_of (HX4.out.at 0 rfl)
            refine hK.out _ _ (fun _ => hC) ?_
            clear hK K
            (try simp only [Act.put, List.setIfInBounds_toArray, List.set_cons_zero, List.set_cons_succ])
            refine nextW (i := 6) rfl (by kernel_rfl) (by rfl) (fun K hK => ?_)
            have st := store_col _ _ _ _ _ _ _ (some ⟨ga, 0, none⟩) ta1 ua1 na1 rooms.length ca rooms.length ta2 rs.length ua2 N.length na2 (HX4.out.at 15 rfl)
            have HX5 := Lib.hid ((((HX4.out.setBlk 15 rfl 0 (.slice (some ⟨ga, 0, none⟩) rooms.length ca)).setBlk 15 rfl 1 (.slice ta1 rooms.length ta2)).setBlk 15 rfl 2 (.slice ua1 rs.length ua2)).setBlk 15 rfl 3 (.slice na1 N.length na2))
            refine op_store rfl rfl rfl st ?_
            clear st hC
            have hC := boxCol_of (HX5.out.at 0 rfl)
            refine hK.out _ _ (fun _ => hC) ?_
            clear hK K
            (try simp only [Act.put, List.setIfInBounds_toArray, List.set_cons_zero, List.set_cons_succ])
            refine nextW (i := 7) rfl (by kernel_rfl) (by rfl) (fun K hK => ?_)
            have st := store_col _ _ _ _ _ _ _ (some ⟨gd, 0, none⟩) td1 ud1 nd1 rooms.length cd rooms.length td2 rs.length ud2 N.length nd2 (HX5.out.at 14 rfl)
            have HX6 := Lib.hid ((((HX5.out.setBlk 14 rfl 0 (.slice (some ⟨gd, 0, none⟩) rooms.length cd)).setBlk 14 rfl 1 (.slice td1 rooms.length td2)).setBlk 14 rfl 2 (.slice ud1 rs.length ud2)).setBlk 14 rfl 3 (.slice nd1 N.length nd2))
            refine op_store rfl rfl rfl st ?_
            clear st hC
            refine hK.out _ _ (Till.done (by kernel_rfl)) ?_
            clear hK K
            (try simp only [Act.put, List.setIfInBounds_toArray, List.set_cons_zero, List.set_cons_succ])
            refine anyL_done (by kernel_rfl) ?_ _
            refine NoPanic.normal ?_
            have HF := Lib.hid (HX6.out.pick (ps' := twoParts b5 p2 v2 xs2 w1.heap.size (.slice ar rooms.length qr) (.slice at_ rooms.length qt) (.slice au rs.length qu) (.slice an N.length qn) rooms.length rooms traps rs nbN N (WX3.heap.size) (WX2.heap.size)
              (.slice (some ⟨ga, 0, none⟩) rooms.length ca) (.slice ta1 rooms.length ta2) (.slice ua1 rs.length ua2) (.slice na1 N.length na2) (.slice (some ⟨gd, 0, none⟩) rooms.length cd) (.slice td1 rooms.length td2) (.slice ud1 rs.length ud2) (.slice nd1 N.length nd2) A1 A2 A3 A4 D1 D2 D3 D4 nba nbd ⟨rooms, traps, rs, N⟩ ⟨rooms, traps, rs, N⟩)
              [0, 1, 2, 3, 4, 5, 15, 14, 6, 7, 8, 9, 10, 11, 12, 13] (by decide) (by kernel_rfl))
            go_wp2_with fail
            go_meet
            have e1 := HA.out
            have e2 := HDD.out
            have e3 := HB4.out
            have e4 := HB5.out
            (try simp only [World.size_alloc, World.size_drew, World.alloc_drew] at e1 e2 e3 e4)
            exact ⟨_, _, rfl, rfl, TwoBegin.mk hn0 HCA.out HCD.out hr10 HRM.out HFE.out (by simp; omega) (by simp; omega) HF.out⟩
        · refine pickW (i := 4) rfl (by rfl) (fun K hK => ?_)
          go_simp
          have HX20 := HX1.out.newBlk 26 #[.slice none 0 0, .slice none 0 0, .slice none 0 0, .slice none 0 0]
          (try simp only [World.size_alloc, World.size_drew, World.alloc_drew] at HX20)
          generalize hWB : World.alloc _ _ = WX2 at HX20 ⊢
          have hzB := congrArg (fun v : World => v.heap.size) hWB
          (try simp only [World.size_alloc, World.size_drew, World.alloc_drew] at hzB)
          have HB4 := Lib.hid hzB
          clear hzB
          have HX2 := Lib.hid HX20
          clear HX20 hWB
          clear hC
          have hC := boxCol_of (HX2.out.at 0 rfl)
          refine hK.out _ _ (fun _ => hC) ?_
          clear hK K
          (try simp only [Act.put, List.setIfInBounds_toArray, List.set_cons_zero, List.set_cons_succ])
          refine someL (rs := [3, 5]) (by kernel_rfl) (by simp) (all_cons ?_ (all_cons ?_ all_nil))
          · refine pickW (i := 3) rfl (by rfl) (fun K hK => ?_)
            go_simp
            refine (ownSep_any rooms.length ⟨rooms, traps, rs, N⟩ _ _ _ _ _ (HCOL.out _ _ HX2.out rfl rfl rfl rfl) HOK.out).mono ?_
            rintro e WX3 ⟨rd, td, ud, nd, D1, D2, D3, D4, nbd, rfl, hD1, hD2, hD3, hD4, hsD, hbD⟩
            have HX3 := Lib.hid (HX2.out.both hbD hsD)
            obtain ⟨gd, cd, rfl, hcd, _⟩ := int_row_cells (hsD.at 0 rfl) rfl hn0
            obtain ⟨td1, td2, rfl⟩ := owns_slice (hsD.at 1 rfl)
            obtain ⟨ud1, ud2, rfl⟩ := owns_slice (hsD.at 2 rfl)
            obtain ⟨⟨⟨fsd, hod, qx1⟩, qx2⟩, qx3⟩ : (pRowsI D4 rooms.length nd nbd N).told WX3 := hsD.at 3 rfl
            clear qx1 qx2 qx3
            obtain ⟨nd1, nd2, rfl⟩ := owns_slice hod
            have hzA := hbD.size
            clear hC hsD hbD hod
            have hC := boxCol_of (HX3.out.at 0 rfl)
            go_simp
            have HDD := Lib.hid (And.intro hD3 hzA)
            have HCD := Lib.hid hcd
            clear hD1 hD2 hD3 hD4 hcd hzA
            refine hK.out _ _ (fun _ => hC) ?_
            clear hK K
            (try simp only [Act.put, List.setIfInBounds_toArray, List.set_cons_zero, List.set_cons_succ])
            refine nextW (i := 5) rfl (by kernel_rfl) (by rfl) (fun K hK => ?_)
            go_simp
            have HX40 := HX3.out.newBlk 26 #[.slice none 0 0, .slice none 0 0, .slice none 0 0, .slice none 0 0]
            (try simp only [World.size_alloc, World.size_drew, World.alloc_drew] at HX40)
            generalize hWB : World.alloc _ _ = WX4 at HX40 ⊢
            have hzB := congrArg (fun v : World => v.heap.size) hWB
            (try simp only [World.size_alloc, World.size_drew, World.alloc_drew] at hzB)
            have HB5 := Lib.hid hzB
            clear hzB
            have HX4 := Lib.hid HX40
            clear HX40 hWB
            clear hC
            have hC := boxCol_of (HX4.out.at 0 rfl)
            refine hK.out _ _ (fun _ => hC) ?_
            clear hK K
            (try simp only [Act.put, List.setIfInBounds_toArray, List.set_cons_zero, List.set_cons_succ])
            refine nextW (i := 6) rfl (by kernel_rfl) (by rfl) (fun K hK => ?_)
            have st := store_col _ _ _ _ _ _ _ (some ⟨ga, 0, none⟩) ta1 ua1 na1 rooms.length ca rooms.length ta2 rs.length ua2 N.length na2 (HX4.out.at 10 rfl)
            have HX5 := Lib.hid ((((HX4.out.setBlk 10 rfl 0 (.slice (some ⟨ga, 0, none⟩) rooms.length ca)).setBlk 10 rfl 1 (.slice ta1 rooms.length ta2)).setBlk 10 rfl 2 (.slice ua1 rs.length ua2)).setBlk 10 rfl 3 (.slice na1 N.length na2))
            refine op_store rfl rfl rfl st ?_
            clear st hC
            have hC := boxCol_of (HX5.out.at 0 rfl)
            refine hK.out _ _ (fun _ => hC) ?_
            clear hK K
            (try simp only [Act.put, List.setIfInBounds_toArray, List.set_cons_zero, List.set_cons_succ])
            refine nextW (i := 7) rfl (by kernel_rfl) (by rfl) (fun K hK => ?_)
            have st := store_col _ _ _ _ _ _ _ (some ⟨gd, 0, none⟩) td1 ud1 nd1 rooms.length cd rooms.length td2 rs.length ud2 N.length nd2 (HX5.out.at 15 rfl)
            have HX6 := Lib.hid ((((HX5.out.setBlk 15 rfl 0 (.slice (some ⟨gd, 0, none⟩) rooms.length cd)).setBlk 15 rfl 1 (.slice td1 rooms.length td2)).setBlk 15 rfl 2 (.slice ud1 rs.length ud2)).setBlk 15 rfl 3 (.slice nd1 N.length nd2))
            refine op_store rfl rfl rfl st ?_
            clear st hC
            refine hK.out _ _ (Till.done (by kernel_rfl)) ?_
            clear hK K
            (try simp only [Act.put, List.setIfInBounds_toArray, List.set_cons_zero, List.set_cons_succ])
            refine anyL_done (by kernel_rfl) ?_ _
            refine NoPanic.normal ?_
            have HF := Lib.hid (HX6.out.pick (ps' := twoParts b5 p2 v2 xs2 w1.heap.size (.slice ar rooms.length qr) (.slice at_ rooms.length qt) (.slice au rs.length qu) (.slice an N.length qn) rooms.length rooms traps rs nbN N (WX1.heap.size) (WX3.heap.size)
              (.slice (some ⟨ga, 0, none⟩) rooms.length ca) (.slice ta1 rooms.length ta2) (.slice ua1 rs.length ua2) (.slice na1 N.length na2) (.slice (some ⟨gd, 0, none⟩) rooms.length cd) (.slice td1 rooms.length td2) (.slice ud1 rs.length ud2) (.slice nd1 N.length nd2) A1 A2 A3 A4 D1 D2 D3 D4 nba nbd ⟨rooms, traps, rs, N⟩ ⟨rooms, traps, rs, N⟩)
              [0, 1, 2, 3, 4, 5, 10, 15, 6, 7, 8, 9, 11, 12, 13, 14] (by decide) (by kernel_rfl))
            go_wp2_with fail
            go_meet
            have e1 := HA.out
            have e2 := HDD.out
            have e3 := HB4.out
            have e4 := HB5.out
            (try simp only [World.size_alloc, World.size_drew, World.alloc_drew] at e1 e2 e3 e4)
            exact ⟨_, _, rfl, rfl, TwoBegin.mk hn0 HCA.out HCD.out hr10 HRM.out HFE.out (by simp; omega) (by simp; omega) HF.out⟩
          · refine pickW (i := 5) rfl (by rfl) (fun K hK => ?_)
            go_simp
            have HX30 := HX2.out.newBlk 26 #[.slice none 0 0, .slice none 0 0, .slice none 0 0, .slice none 0 0]
            (try simp only [World.size_alloc, World.size_drew, World.alloc_drew] at HX30)
            generalize hWB : World.alloc _ _ = WX3 at HX30 ⊢
            have hzB := congrArg (fun v : World => v.heap.size) hWB
            (try simp only [World.size_alloc, World.size_drew, World.alloc_drew] at hzB)
            have HB5 := Lib.hid hzB
            clear hzB
            have HX3 := Lib.hid HX30
            clear HX30 hWB
            clear hC
            have hC := boxCol_of (HX3.out.at 0 rfl)
            refine hK.out _ _ (fun _ => hC) ?_
            clear hK K
            (try simp only [Act.put, List.setIfInBounds_toArray, List.set_cons_zero, List.set_cons_succ])
            refine nextW (i := 3) rfl (by kernel_rfl) (by rfl) (fun K hK => ?_)
            go_simp
            refine (ownSep_any rooms.length ⟨rooms, traps, rs, N⟩ _ _ _ _ _ (HCOL.out _ _ HX3.out rfl rfl rfl rfl) HOK.out).mono ?_
            rintro e WX4 ⟨rd, td, ud, nd, D1, D2, D3, D4, nbd, rfl, hD1, hD2, hD3, hD4, hsD, hbD⟩
            have HX4 := Lib.hid (HX3.out.both hbD hsD)
            obtain ⟨gd, cd, rfl, hcd, _⟩ := int_row_cells (hsD.at 0 rfl) rfl hn0
            obtain ⟨td1, td2, rfl⟩ := owns_slice (hsD.at 1 rfl)
            obtain ⟨ud1, ud2, rfl⟩ := owns_slice (hsD.at 2 rfl)
            obtain ⟨⟨⟨fsd, hod, qx1⟩, qx2⟩, qx3⟩ : (pRowsI D4 rooms.length nd nbd N).told WX4 := hsD.at 3 rfl
            clear qx1 qx2 qx3
            obtain ⟨nd1, nd2, rfl⟩ := owns_slice hod
            have hzA := hbD.size
            clear hC hsD hbD hod
            have hC := boxCol_of (HX4.out.at 0 rfl)
            go_simp
            have HDD := Lib.hid (And.intro hD3 hzA)
            have HCD := Lib.hid hcd
            clear hD1 hD2 hD3 hD4 hcd hzA
            refine hK.out _ _ (fun _ => hC) ?_
            clear hK K
            (try simp only [Act.put, List.setIfInBounds_toArray, List.set_cons_zero, List.set_cons_succ])
            refine nextW (i := 6) rfl (by kernel_rfl) (by rfl) (fun K hK => ?_)
            have st := store_col _ _ _ _ _ _ _ (some ⟨ga, 0, none⟩) ta1 ua1 na1 rooms.length ca rooms.length ta2 rs.length ua2 N.length na2 (HX4.out.at 10 rfl)
            have HX5 := Lib.hid ((((HX4.out.setBlk 10 rfl 0 (.slice (some ⟨ga, 0, none⟩) rooms.length ca)).setBlk 10 rfl 1 (.slice ta1 rooms.length ta2)).setBlk 10 rfl 2 (.slice ua1 rs.length ua2)).setBlk 10 rfl 3 (.slice na1 N.length na2))
            refine op_store rfl rfl rfl st ?_
            clear st hC
            have hC := boxCol_of (HX5.out.at 0 rfl)
            refine hK.out _ _ (fun _ => hC) ?_
            clear hK K
            (try simp only [Act.put, List.setIfInBounds_toArray, List.set_cons_zero, List.set_cons_succ])
            refine nextW (i := 7) rfl (by kernel_rfl) (by rfl) (fun K hK => ?_)
            have st := store_col _ _ _ _ _ _ _ (some ⟨gd, 0, none⟩) td1 ud1 nd1 rooms.length cd rooms.length td2 rs.length ud2 N.length nd2 (HX5.out.at 11 rfl)
            have HX6 := Lib.hid ((((HX5.out.setBlk 11 rfl 0 (.slice (some ⟨gd, 0, none⟩) rooms.length cd)).setBlk 11 rfl 1 (.slice td1 rooms.length td2)).setBlk 11 rfl 2 (.slice ud1 rs.length ud2)).setBlk 11 rfl 3 (.slice nd1 N.length nd2))
            refine op_store rfl rfl rfl st ?_
            clear st hC
            refine hK.out _ _ (Till.done (by kernel_rfl)) ?_
            clear hK K
            (try simp only [Act.put, List.setIfInBounds_toArray, List.set_cons_zero, List.set_cons_succ])
            refine anyL_done (by kernel_rfl) ?_ _
            refine NoPanic.normal ?_
            have HF := Lib.hid (HX6.out.pick (ps' := twoParts b5 p2 v2 xs2 w1.heap.size (.slice ar rooms.length qr) (.slice at_ rooms.length qt) (.slice au rs.length qu) (.slice an N.length qn) rooms.length rooms traps rs nbN N (WX1.heap.size) (WX2.heap.size)
              (.slice (some ⟨ga, 0, none⟩) rooms.length ca) (.slice ta1 rooms.length ta2) (.slice ua1 rs.length ua2) (.slice na1 N.length na2) (.slice (some ⟨gd, 0, none⟩) rooms.length cd) (.slice td1 rooms.length td2) (.slice ud1 rs.length ud2) (.slice nd1 N.length nd2) A1 A2 A3 A4 D1 D2 D3 D4 nba nbd ⟨rooms, traps, rs, N⟩ ⟨rooms, traps, rs, N⟩)
              [0, 1, 2, 3, 4, 5, 10, 11, 6, 7, 8, 9, 12, 13, 14, 15] (by decide) (by kernel_rfl))
            go_wp2_with fail
            go_meet
            have e1 := HA.out
            have e2 := HDD.out
            have e3 := HB4.out
            have e4 := HB5.out
            (try simp only [World.size_alloc, World.size_drew, World.alloc_drew] at e1 e2 e3 e4)
            exact ⟨_, _, rfl, rfl, TwoBegin.mk hn0 HCA.out HCD.out hr10 HRM.out HFE.out (by simp; omega) (by simp; omega) HF.out⟩
        · refine pickW (i := 5) rfl (by rfl) (fun K hK => ?_)
          go_simp
          have HX20 := HX1.out.newBlk 26 #[.slice none 0 0, .slice none 0 0, .slice none 0 0, .slice none 0 0]
          (try simp only [World.size_alloc, World.size_drew, World.alloc_drew] at HX20)
          generalize hWB : World.alloc _ _ = WX2 at HX20 ⊢
          have hzB := congrArg (fun v : World => v.heap.size) hWB
          (try simp only [World.size_alloc, World.size_drew, World.alloc_drew] at hzB)
          have HB5 := Lib.hid hzB
          clear hzB
          have HX2 := Lib.hid HX20
          clear HX20 hWB
          clear hC
          have hC := boxCol_of (HX2.out.at 0 rfl)
          refine hK.out _ _ (fun _ => hC) ?_
          clear hK K
          (try simp only [Act.put, List.setIfInBounds_toArray, List.set_cons_zero, List.set_cons_succ])
          refine someL (rs := [3, 4]) (by kernel_rfl) (by simp) (all_cons ?_ (all_cons ?_ all_nil))
          · refine pickW (i := 3) rfl (by rfl) (fun K hK => ?_)
            go_simp
            refine (ownSep_any rooms.length ⟨rooms, traps, rs, N⟩ _ _ _ _ _ (HCOL.out _ _ HX2.out rfl rfl rfl rfl) HOK.out).mono ?_
            rintro e WX3 ⟨rd, td, ud, nd, D1, D2, D3, D4, nbd, rfl, hD1, hD2, hD3, hD4, hsD, hbD⟩
            have HX3 := Lib.hid (HX2.out.both hbD hsD)
            obtain ⟨gd, cd, rfl, hcd, _⟩ := int_row_cells (hsD.at 0 rfl) rfl hn0
            obtain ⟨td1, td2, rfl⟩ := owns_slice (hsD.at 1 rfl)
            obtain ⟨ud1, ud2, rfl⟩ := owns_slice (hsD.at 2 rfl)
            obtain ⟨⟨⟨fsd, hod, qx1⟩, qx2⟩, qx3⟩ : (pRowsI D4 rooms.length nd nbd N).told WX3 := hsD.at 3 rfl
            clear qx1 qx2 qx3
            obtain ⟨nd1, nd2, rfl⟩ := owns_slice hod
            have hzA := hbD.size
            clear hC hsD hbD hod
            have hC := boxCol_of (HX3.out.at 0 rfl)
            go_simp
            have HDD := Lib.hid (And.intro hD3 hzA)
            have HCD := Lib.hid hcd
            clear hD1 hD2 hD3 hD4 hcd hzA
            refine hK.out _ _ (fun _ => hC) ?_
            clear hK K
            (try simp only [Act.put, List.setIfInBounds_toArray, List.set_cons_zero, List.set_cons_succ])
            refine nextW (i := 4) rfl (by kernel_rfl) (by rfl) (fun K hK => ?_)
            go_simp
            have HX40 := HX3.out.newBlk 26 #[.slice none 0 0, .slice none 0 0, .slice none 0 0, .slice none 0 0]
            (try simp only [World.size_alloc, World.size_drew, World.alloc_drew] at HX40)
            generalize hWB : World.alloc _ _ = WX4 at HX40 ⊢
            have hzB := congrArg (fun v : World => v.heap.size) hWB
            (try simp only [World.size_alloc, World.size_drew, World.alloc_drew] at hzB)
            have HB4 := Lib.hid hzB
            clear hzB
            have HX4 := Lib.hid HX40
            clear HX40 hWB
            clear hC
            have hC := boxCol_of (HX4.out.at 0 rfl)
            refine hK.out _ _ (fun _ => hC) ?_
            clear hK K
            (try simp only [Act.put, List.setIfInBounds_toArray, List.set_cons_zero, List.set_cons_succ])
            refine nextW (i := 6) rfl (by kernel_rfl) (by rfl) (fun K hK => ?_)
            have st := store_col _ _ _ _ _ _ _ (some ⟨ga, 0, none⟩) ta1 ua1 na1 rooms.length ca rooms.length ta2 rs.length ua2 N.length na2 (HX4.out.at 15 rfl)
            have HX5 := Lib.hid ((((HX4.out.setBlk 15 rfl 0 (.slice (some ⟨ga, 0, none⟩) rooms.length ca)).setBlk 15 rfl 1 (.slice ta1 rooms.length ta2)).setBlk 15 rfl 2 (.slice ua1 rs.length ua2)).setBlk 15 rfl 3 (.slice na1 N.length na2))
            refine op_store rfl rfl rfl st ?_
            clear st hC
            have hC := boxCol_of (HX5.out.at 0 rfl)
            refine hK.out _ _ (fun _ => hC) ?_
            clear hK K
            (try simp only [Act.put, List.setIfInBounds_toArray, List.set_cons_zero, List.set_cons_succ])
            refine nextW (i := 7) rfl (by kernel_rfl) (by rfl) (fun K hK => ?_)
            have st := store_col _ _ _ _ _ _ _ (some ⟨gd, 0, none⟩) td1 ud1 nd1 rooms.length cd rooms.length td2 rs.length ud2 N.length nd2 (HX5.out.at 10 rfl)
            have HX6 := Lib.hid ((((HX5.out.setBlk 10 rfl 0 (.slice (some ⟨gd, 0, none⟩) rooms.length cd)).setBlk 10 rfl 1 (.slice td1 rooms.length td2)).setBlk 10 rfl 2 (.slice ud1 rs.length ud2)).setBlk 10 rfl 3 (.slice nd1 N.length nd2))
            refine op_store rfl rfl rfl st ?_
            clear st hC
            refine hK.out _ _ (Till.done (by kernel_rfl)) ?_
            clear hK K
            (try simp only [Act.put, List.setIfInBounds_toArray, List.set_cons_zero, List.set_cons_succ])
            refine anyL_done (by kernel_rfl) ?_ _
            refine NoPanic.normal ?_
            have HF := Lib.hid (HX6.out.pick (ps' := twoParts b5 p2 v2 xs2 w1.heap.size (.slice ar rooms.length qr) (.slice at_ rooms.length qt) (.slice au rs.length qu) (.slice an N.length qn) rooms.length rooms traps rs nbN N (WX3.heap.size) (WX1.heap.size)
              (.slice (some ⟨ga, 0, none⟩) rooms.length ca) (.slice ta1 rooms.length ta2) (.slice ua1 rs.length ua2) (.slice na1 N.length na2) (.slice (some ⟨gd, 0, none⟩) rooms.length cd) (.slice td1 rooms.length td2) (.slice ud1 rs.length ud2) (.slice nd1 N.length nd2) A1 A2 A3 A4 D1 D2 D3 D4 nba nbd ⟨rooms, traps, rs, N⟩ ⟨rooms, traps, rs, N⟩)
              [0, 1, 2, 3, 4, 5, 15, 10, 6, 7, 8, 9, 11, 12, 13, 14] (by decide) (by kernel_rfl))
            go_wp2_with fail
            go_meet
            have e1 := HA.out
            have e2 := HDD.out
            have e3 := HB4.out
            have e4 := HB5.out
            (try simp only [World.size_alloc, World.size_drew, World.alloc_drew] at e1 e2 e3 e4)
            exact ⟨_, _, rfl, rfl, TwoBegin.mk hn0 HCA.out HCD.out hr10 HRM.out HFE.out (by simp; omega) (by simp; omega) HF.out⟩
          · refine pickW (i := 4) rfl (by rfl) (fun K hK => ?_)
            go_simp
            have HX30 := HX2.out.newBlk 26 #[.slice none 0 0, .slice none 0 0, .slice none 0 0, .slice none 0 0]
            (try simp only [World.size_alloc, World.size_drew, World.alloc_drew] at HX30)
            generalize hWB : World.alloc _ _ = WX3 at HX30 ⊢
            have hzB := congrArg (fun v : World => v.heap.size) hWB
            (try simp only [World.size_alloc, World.size_drew, World.alloc_drew] at hzB)
            have HB4 := Lib.hid hzB
            clear hzB
            have HX3 := Lib.hid HX30
            clear HX30 hWB
            clear hC
            have hC := boxCol_of (HX3.out.at 0 rfl)
            refine hK.out _ _ (fun _ => hC) ?_
            clear hK K
            (try simp only [Act.put, List.setIfInBounds_toArray, List.set_cons_zero, List.set_cons_succ])
            refine nextW (i := 3) rfl (by kernel_rfl) (by rfl) (fun K hK => ?_)
            go_simp
            refine (ownSep_any rooms.length ⟨rooms, traps, rs, N⟩ _ _ _ _ _ (HCOL.out _ _ HX3.out rfl rfl rfl rfl) HOK.out).mono ?_
            rintro e WX4 ⟨rd, td, ud, nd, D1, D2, D3, D4, nbd, rfl, hD1, hD2, hD3, hD4, hsD, hbD⟩
            have HX4 := Lib.hid (HX3.out.both hbD hsD)
            obtain ⟨gd, cd, rfl, hcd, _⟩ := int_row_cells (hsD.at 0 rfl) rfl hn0
            obtain ⟨td1, td2, rfl⟩ := owns_slice (hsD.at 1 rfl)
            obtain ⟨ud1, ud2, rfl⟩ := owns_slice (hsD.at 2 rfl)
            obtain ⟨⟨⟨fsd, hod, qx1⟩, qx2⟩, qx3⟩ : (pRowsI D4 rooms.length nd nbd N).told WX4 := hsD.at 3 rfl
            clear qx1 qx2 qx3
            obtain ⟨nd1, nd2, rfl⟩ := owns_slice hod
            have hzA := hbD.size
            clear hC hsD hbD hod
            have hC := boxCol_of (HX4.out.at 0 rfl)
            go_simp
            have HDD := Lib.hid (And.intro hD3 hzA)
            have HCD := Lib.hid hcd
            clear hD1 hD2 hD3 hD4 hcd hzA
            refine hK.out _ _ (fun _ => hC) ?_
            clear hK K
            (try simp only [Act.put, List.setIfInBounds_toArray, List.set_cons_zero, List.set_cons_succ])
            refine nextW (i := 6) rfl (by kernel_rfl) (by rfl) (fun K hK => ?_)
            have st := store_col _ _ _ _ _ _ _ (some ⟨ga, 0, none⟩) ta1 ua1 na1 rooms.length ca rooms.length ta2 rs.length ua2 N.length na2 (HX4.out.at 11 rfl)
            have HX5 := Lib.hid ((((HX4.out.setBlk 11 rfl 0 (.slice (some ⟨ga, 0, none⟩) rooms.length ca)).setBlk 11 rfl 1 (.slice ta1 rooms.length ta2)).setBlk 11 rfl 2 (.slice ua1 rs.length ua2)).setBlk 11 rfl 3 (.slice na1 N.length na2))
            refine op_store rfl rfl rfl st ?_
            clear st hC
            have hC := boxCol_of (HX5.out.at 0 rfl)
            refine hK.out _ _ (fun _ => hC) ?_
            clear hK K
            (try simp only [Act.put, List.setIfInBounds_toArray, List.set_cons_zero, List.set_cons_succ])
            refine nextW (i := 7) rfl (by kernel_rfl) (by rfl) (fun K hK => ?_)
            have st := store_col _ _ _ _ _ _ _ (some ⟨gd, 0, none⟩) td1 ud1 nd1 rooms.length cd rooms.length td2 rs.length ud2 N.length nd2 (HX5.out.at 10 rfl)
            have HX6 := Lib.hid ((((HX5.out.setBlk 10 rfl 0 (.slice (some ⟨gd, 0, none⟩) rooms.length cd)).setBlk 10 rfl 1 (.slice td1 rooms.length td2)).setBlk 10 rfl 2 (.slice ud1 rs.length ud2)).setBlk 10 rfl 3 (.slice nd1 N.length nd2))
            refine op_store rfl rfl rfl st ?_
            clear st hC
            refine hK.out _ _ (Till.done (by kernel_rfl)) ?_
            clear hK K
            (try simp only [Act.put, List.setIfInBounds_toArray, List.set_cons_zero, List.set_cons_succ])
            refine anyL_done (by kernel_rfl) ?_ _
            refine NoPanic.normal ?_
            have HF := Lib.hid (HX6.out.pick (ps' := twoParts b5 p2 v2 xs2 w1.heap.size (.slice ar rooms.length qr) (.slice at_ rooms.length qt) (.slice au rs.length qu) (.slice an N.length qn) rooms.length rooms traps rs nbN N (WX2.heap.size) (WX1.heap.size)
              (.slice (some ⟨ga, 0, none⟩) rooms.length ca) (.slice ta1 rooms.length ta2) (.slice ua1 rs.length ua2) (.slice na1 N.length na2) (.slice (some ⟨gd, 0, none⟩) rooms.length cd) (.slice td1 rooms.length td2) (.slice ud1 rs.length ud2) (.slice nd1 N.length nd2) A1 A2 A3 A4 D1 D2 D3 D4 nba nbd ⟨rooms, traps, rs, N⟩ ⟨rooms, traps, rs, N⟩)
              [0, 1, 2, 3, 4, 5, 11, 10, 6, 7, 8, 9, 12, 13, 14, 15] (by decide) (by kernel_rfl))
            go_wp2_with fail
            go_meet
            have e1 := HA.out
            have e2 := HDD.out
            have e3 := HB4.out
            have e4 := HB5.out
            (try simp only [World.size_alloc, World.size_drew, World.alloc_drew] at e1 e2 e3 e4)
            exact ⟨_, _, rfl, rfl, TwoBegin.mk hn0 HCA.out HCD.out hr10 HRM.out HFE.out (by simp; omega) (by simp; omega) HF.out⟩
      · refine pickW (i := 4) rfl (by rfl) (fun K hK => ?_)
        go_simp
        have HX10 := HD.out.newBlk 26 #[.slice none 0 0, .slice none 0 0, .slice none 0 0, .slice none 0 0]
        (try simp only [World.size_alloc, World.size_drew, World.alloc_drew] at HX10)
        generalize hWB : World.alloc _ _ = WX1 at HX10 ⊢
        have hzB := congrArg (fun v : World => v.heap.size) hWB
        (try simp only [World.size_alloc, World.size_drew, World.alloc_drew] at hzB)
        have HB4 := Lib.hid hzB
        clear hzB
        have HX1 := Lib.hid HX10
        clear HX10 hWB
        clear hC
        have hC := boxCol_of (HX1.out.at 0 rfl)
        refine hK.out _ _ (fun _ => hC) ?_
        clear hK K
        (try simp only [Act.put, List.setIfInBounds_toArray, List.set_cons_zero, List.set_cons_succ])
        refine someL (rs := [1, 5]) (by kernel_rfl) (by simp) (all_cons ?_ (all_cons ?_ all_nil))
        · refine pickW (i := 1) rfl (by rfl) (fun K hK => ?_)
          go_simp
          refine (ownSep_any rooms.length ⟨rooms, traps, rs, N⟩ _ _ _ _ _ (HCOL.out _ _ HX1.out rfl rfl rfl rfl) HOK.out).mono ?_
          rintro e WX2 ⟨ra, ta, ua, na, A1, A2, A3, A4, nba, rfl, hA1, hA2, hA3, hA4, hsA, hbA⟩
          have HX2 := Lib.hid (HX1.out.both hbA hsA)
          obtain ⟨ga, ca, rfl, hca, _⟩ := int_row_cells (hsA.at 0 rfl) rfl hn0
          obtain ⟨ta1, ta2, rfl⟩ := owns_slice (hsA.at 1 rfl)
          obtain ⟨ua1, ua2, rfl⟩ := owns_slice (hsA.at 2 rfl)
          obtain ⟨⟨⟨fsa, hoa, qx1⟩, qx2⟩, qx3⟩ : (pRowsI A4 rooms.length na nba N).told WX2 := hsA.at 3 rfl
          clear qx1 qx2 qx3
          obtain ⟨na1, na2, rfl⟩ := owns_slice hoa
          have hzO := hbA.size
          clear hC hsA hbA hoa
          have hC := boxCol_of (HX2.out.at 0 rfl)
          go_simp
          have HA := Lib.hid (And.intro hA1 hzO)
          have HCA := Lib.hid hca
          clear hA1 hA2 hA3 hA4 hca hzO
          refine hK.out _ _ (fun _ => hC) ?_
          clear hK K
          (try simp only [Act.put, List.setIfInBounds_toArray, List.set_cons_zero, List.set_cons_succ])
          refine someL (rs := [3, 5]) (by kernel_rfl) (by simp) (all_cons ?_ (all_cons ?_ all_nil))
          · refine pickW (i := 3) rfl (by rfl) (fun K hK => ?_)
            go_simp
            refine (ownSep_any rooms.length ⟨rooms, traps, rs, N⟩ _ _ _ _ _ (HCOL.out _ _ HX2.out rfl rfl rfl rfl) HOK.out).mono ?_
            rintro e WX3 ⟨rd, td, ud, nd, D1, D2, D3, D4, nbd, rfl, hD1, hD2, hD3, hD4, hsD, hbD⟩
            have HX3 := Lib.hid (HX2.out.both hbD hsD)
            obtain ⟨gd, cd, rfl, hcd, _⟩ := int_row_cells (hsD.at 0 rfl) rfl hn0
            obtain ⟨td1, td2, rfl⟩ := owns_slice (hsD.at 1 rfl)
            obtain ⟨ud1, ud2, rfl⟩ := owns_slice (hsD.at 2 rfl)
            obtain ⟨⟨⟨fsd, hod, qx1⟩, qx2⟩, qx3⟩ : (pRowsI D4 rooms.length nd nbd N).told WX3 := hsD.at 3 rfl
            clear qx1 qx2 qx3
            obtain ⟨nd1, nd2, rfl⟩ := owns_slice hod
            have hzA := hbD.size
            clear hC hsD hbD hod
            have hC := boxCol_of (HX3.out.at 0 rfl)
            go_simp
            have HDD := Lib.hid (And.intro hD3 hzA)
            have HCD := Lib.hid hcd
            clear hD1 hD2 hD3 hD4 hcd hzA
            refine hK.out _ _ (fun _ => hC) ?_
            clear hK K
            (try simp only [Act.put, List.setIfInBounds_toArray, List.set_cons_zero, List.set_cons_succ])
            refine nextW (i := 5) rfl (by kernel_rfl) (by rfl) (fun K hK => ?_)
            go_simp
            have HX40 := HX3.out.newBlk 26 #[.slice none 0 0, .slice none 0 0, .slice none 0 0, .slice none 0 0]
            (try simp only [World.size_alloc, World.size_drew, World.alloc_drew] at HX40)
            generalize hWB : World.alloc _ _ = WX4 at HX40 ⊢
            have hzB := congrArg (fun v : World => v.heap.size) hWB
            (try simp only [World.size_alloc, World.size_drew, World.alloc_drew] at hzB)
            have HB5 := Lib.hid hzB
            clear hzB
            have HX4 := Lib.hid HX40
            clear HX40 hWB
            clear hC
            have hC := boxCol_of (HX4.out.at 0 rfl)
            refine hK.out _ _ (fun _ => hC) ?_
            clear hK K
            (try simp only [Act.put, List.setIfInBounds_toArray, List.set_cons_zero, List.set_cons_succ])
            refine nextW (i := 6) rfl (by kernel_rfl) (by rfl) (fun K hK => ?_)
            have st := store_col _ _ _ _ _ _ _ (some ⟨ga, 0, none⟩) ta1 ua1 na1 rooms.length ca rooms.length ta2 rs.length ua2 N.length na2 (HX4.out.at 6 rfl)
            have HX5 := Lib.hid ((((HX4.out.setBlk 6 rfl 0 (.slice (some ⟨ga, 0, none⟩) rooms.length ca)).setBlk 6 rfl 1 (.slice ta1 rooms.length ta2)).setBlk 6 rfl 2 (.slice ua1 rs.length ua2)).setBlk 6 rfl 3 (.slice na1 N.length na2))
            refine op_store rfl rfl rfl st ?_
            clear st hC
            have hC := boxCol_of (HX5.out.at 0 rfl)
            refine hK.out _ _ (fun _ => hC) ?_
            clear hK K
            (try simp only [Act.put, List.setIfInBounds_toArray, List.set_cons_zero, List.set_cons_succ])
            refine nextW (i := 7) rfl (by kernel_rfl) (by rfl) (fun K hK => ?_)
            have st := store_col _ _ _ _ _ _ _ (some ⟨gd, 0, none⟩) td1 ud1 nd1 rooms.length cd rooms.length td2 rs.length ud2 N.length nd2 (HX5.out.at 15 rfl)
            have HX6 := Lib.hid ((((HX5.out.setBlk 15 rfl 0 (.slice (some ⟨gd, 0, none⟩) rooms.length cd)).setBlk 15 rfl 1 (.slice td1 rooms.length td2)).setBlk 15 rfl 2 (.slice ud1 rs.length ud2)).setBlk 15 rfl 3 (.slice nd1 N.length nd2))
            refine op_store rfl rfl rfl st ?_
            clear st hC
            refine hK.out _ _ (Till.done (by kernel_rfl)) ?_
            clear hK K
            (try simp only [Act.put, List.setIfInBounds_toArray, List.set_cons_zero, List.set_cons_succ])
            refine anyL_done (by kernel_rfl) ?_ _
            refine NoPanic.normal ?_
            have HF := Lib.hid (HX6.out.pick (ps' := twoParts b5 p2 v2 xs2 w1.heap.size (.slice ar rooms.length qr) (.slice at_ rooms.length qt) (.slice au rs.length qu) (.slice an N.length qn) rooms.length rooms traps rs nbN N (w4.heap.size) (WX3.heap.size)
              (.slice (some ⟨ga, 0, none⟩) rooms.length ca) (.slice ta1 rooms.length ta2) (.slice ua1 rs.length ua2) (.slice na1 N.length na2) (.slice (some ⟨gd, 0, none⟩) rooms.length cd) (.slice td1 rooms.length td2) (.slice ud1 rs.length ud2) (.slice nd1 N.length nd2) A1 A2 A3 A4 D1 D2 D3 D4 nba nbd ⟨rooms, traps, rs, N⟩ ⟨rooms, traps, rs, N⟩)
              [0, 1, 2, 3, 4, 5, 6, 15, 7, 8, 9, 10, 11, 12, 13, 14] (by decide) (by kernel_rfl))
            go_wp2_with fail
            go_meet
            have e1 := HA.out
            have e2 := HDD.out
            have e3 := HB4.out
            have e4 := HB5.out
            (try simp only [World.size_alloc, World.size_drew, World.alloc_drew] at e1 e2 e3 e4)
            exact ⟨_, _, rfl, rfl, TwoBegin.mk hn0 HCA.out HCD.out hr10 HRM.out HFE.out (by simp; omega) (by simp; omega) HF.out⟩
          · refine pickW (i := 5) rfl (by rfl) (fun K hK => ?_)
            go_simp
            have HX30 := HX2.out.newBlk 26 #[.slice none 0 0, .slice none 0 0, .slice none 0 0, .slice none 0 0]
            (try simp only [World.size_alloc, World.size_drew, World.alloc_drew] at HX30)
            generalize hWB : World.alloc _ _ = WX3 at HX30 ⊢
            have hzB := congrArg (fun v : World => v.heap.size) hWB
            (try simp only [World.size_alloc, World.size_drew, World.alloc_drew] at hzB)
            have HB5 := Lib.hid hzB
            clear hzB
            have HX3 := Lib.hid HX30
            clear HX30 hWB
            clear hC
            have hC := boxCol_of (HX3.out.at 0 rfl)
            refine hK.out _ _ (fun _ => hC) ?_
            clear hK K
            (try simp only [Act.put, List.setIfInBounds_toArray, List.set_cons_zero, List.set_cons_succ])
            refine nextW (i := 3) rfl (by kernel_rfl) (by rfl) (fun K hK => ?_)
            go_simp
            refine (ownSep_any rooms.length ⟨rooms, traps, rs, N⟩ _ _ _ _ _ (HCOL.out _ _ HX3.out rfl rfl rfl rfl) HOK.out).mono ?_
            rintro e WX4 ⟨rd, td, ud, nd, D1, D2, D3, D4, nbd, rfl, hD1, hD2, hD3, hD4, hsD, hbD⟩
            have HX4 := Lib.hid (HX3.out.both hbD hsD)
            obtain ⟨gd, cd, rfl, hcd, _⟩ := int_row_cells (hsD.at 0 rfl) rfl hn0
            obtain ⟨td1, td2, rfl⟩ := owns_slice (hsD.at 1 rfl)
            obtain ⟨ud1, ud2, rfl⟩ := owns_slice (hsD.at 2 rfl)
            obtain ⟨⟨⟨fsd, hod, qx1⟩, qx2⟩, qx3⟩ : (pRowsI D4 rooms.length nd nbd N).told WX4 := hsD.at 3 rfl
            clear qx1 qx2 qx3
            obtain ⟨nd1, nd2, rfl⟩ := owns_slice hod
            have hzA := hbD.size
            clear hC hsD hbD hod
            have hC := boxCol_of (HX4.out.at 0 rfl)
            go_simp
            have HDD := Lib.hid (And.intro hD3 hzA)
            have HCD := Lib.hid hcd
            clear hD1 hD2 hD3 hD4 hcd hzA
            refine hK.out _ _ (fun _ => hC) ?_
            clear hK K
            (try simp only [Act.put, List.setIfInBounds_toArray, List.set_cons_zero, List.set_cons_succ])
            refine nextW (i := 6) rfl (by kernel_rfl) (by rfl) (fun K hK => ?_)
            have st := store_col _ _ _ _ _ _ _ (some ⟨ga, 0, none⟩) ta1 ua1 na1 rooms.length ca rooms.length ta2 rs.length ua2 N.length na2 (HX4.out.at 6 rfl)
            have HX5 := Lib.hid ((((HX4.out.setBlk 6 rfl 0 (.slice (some ⟨ga, 0, none⟩) rooms.length ca)).setBlk 6 rfl 1 (.slice ta1 rooms.length ta2)).setBlk 6 rfl 2 (.slice ua1 rs.length ua2)).setBlk 6 rfl 3 (.slice na1 N.length na2))
            refine op_store rfl rfl rfl st ?_
            clear st hC
            have hC := boxCol_of (HX5.out.at 0 rfl)
            refine hK.out _ _ (fun _ => hC) ?_
            clear hK K
            (try simp only [Act.put, List.setIfInBounds_toArray, List.set_cons_zero, List.set_cons_succ])
            refine nextW (i := 7) rfl (by kernel_rfl) (by rfl) (fun K hK => ?_)
            have st := store_col _ _ _ _ _ _ _ (some ⟨gd, 0, none⟩) td1 ud1 nd1 rooms.length cd rooms.length td2 rs.length ud2 N.length nd2 (HX5.out.at 11 rfl)
            have HX6 := Lib.hid ((((HX5.out.setBlk 11 rfl 0 (.slice (some ⟨gd, 0, none⟩) rooms.length cd)).setBlk 11 rfl 1 (.slice td1 rooms.length td2)).setBlk 11 rfl 2 (.slice ud1 rs.length ud2)).setBlk 11 rfl 3 (.slice nd1 N.length nd2))
            refine op_store rfl rfl rfl st ?_
            clear st hC
            refine hK.out _ _ (Till.done (by kernel_rfl)) ?_
            clear hK K
            (try simp only [Act.put, List.setIfInBounds_toArray, List.set_cons_zero, List.set_cons_succ])
            refine anyL_done (by kernel_rfl) ?_ _
            refine NoPanic.normal ?_
            have HF := Lib.hid (HX6.out.pick (ps' := twoParts b5 p2 v2 xs2 w1.heap.size (.slice ar rooms.length qr) (.slice at_ rooms.length qt) (.slice au rs.length qu) (.slice an N.length qn) rooms.length rooms traps rs nbN N (w4.heap.size) (WX2.heap.size)
              (.slice (some ⟨ga, 0, none⟩) rooms.length ca) (.slice ta1 rooms.length ta2) (.slice ua1 rs.length ua2) (.slice na1 N.length na2) (.slice (some ⟨gd, 0, none⟩) rooms.length cd) (.slice td1 rooms.length td2) (.slice ud1 rs.length ud2) (.slice nd1 N.length nd2) A1 A2 A3 A4 D1 D2 D3 D4 nba nbd ⟨rooms, traps, rs, N⟩ ⟨rooms, traps, rs, N⟩)
              [0, 1, 2, 3, 4, 5, 6, 11, 7, 8, 9, 10, 12, 13, 14, 15] (by decide) (by kernel_rfl))
            go_wp2_with fail
            go_meet
            have e1 := HA.out
            have e2 := HDD.out
            have e3 := HB4.out
            have e4 := HB5.out
            (try simp only [World.size_alloc, World.size_drew, World.alloc_drew] at e1 e2 e3 e4)
            exact ⟨_, _, rfl, rfl, TwoBegin.mk hn0 HCA.out HCD.out hr10 HRM.out HFE.out (by simp; omega) (by simp; omega) HF.out⟩
        · refine pickW (i := 5) rfl (by rfl) (fun K hK => ?_)
          go_simp
          have HX20 := HX1.out.newBlk 26 #[.slice none 0 0, .slice none 0 0, .slice none 0 0, .slice none 0 0]
          (try simp only [World.size_alloc, World.size_drew, World.alloc_drew] at HX20)
          generalize hWB : World.alloc _ _ = WX2 at HX20 ⊢
          have hzB := congrArg (fun v : World => v.heap.size) hWB
          (try simp only [World.size_alloc, World.size_drew, World.alloc_drew] at hzB)
          have HB5 := Lib.hid hzB
          clear hzB
          have HX2 := Lib.hid HX20
          clear HX20 hWB
          clear hC
          have hC := boxCol_of (HX2.out.at 0 rfl)
          refine hK.out _ _ (fun _ => hC) ?_
          clear hK K
          (try simp only [Act.put, List.setIfInBounds_toArray, List.set_cons_zero, List.set_cons_succ])
          refine nextW (i := 1) rfl (by kernel_rfl) (by rfl) (fun K hK => ?_)
          go_simp
          refine (ownSep_any rooms.length ⟨rooms, traps, rs, N⟩ _ _ _ _ _ (HCOL.out _ _ HX2.out rfl rfl rfl rfl) HOK.out).mono ?_
          rintro e WX3 ⟨ra, ta, ua, na, A1, A2, A3, A4, nba, rfl, hA1, hA2, hA3, hA4, hsA, hbA⟩
          have HX3 := Lib.hid (HX2.out.both hbA hsA)
          obtain ⟨ga, ca, rfl, hca, _⟩ := int_row_cells (hsA.at 0 rfl) rfl hn0
          obtain ⟨ta1, ta2, rfl⟩ := owns_slice (hsA.at 1 rfl)
          obtain ⟨ua1, ua2, rfl⟩ := owns_slice (hsA.at 2 rfl)
          obtain ⟨⟨⟨fsa, hoa, qx1⟩, qx2⟩, qx3⟩ : (pRowsI A4 rooms.length na nba N).told WX3 := hsA.at 3 rfl
          clear qx1 qx2 qx3
          obtain ⟨na1, na2, rfl⟩ := owns_slice hoa
          have hzO := hbA.size
          clear hC hsA hbA hoa
          have hC := boxCol_of (HX3.out.at 0 rfl)
          go_simp
          have HA := Lib.hid (And.intro hA1 hzO)
          have HCA := Lib.hid hca
          clear hA1 hA2 hA3 hA4 hca hzO
          refine hK.out _ _ (fun _ => hC) ?_
          clear hK K
          (try simp only [Act.put, List.setIfInBounds_toArray, List.set_cons_zero, List.set_cons_succ])
          refine nextW (i := 3) rfl (by kernel_rfl) (by rfl) (fun K hK => ?_)
          go_simp
          refine (ownSep_any rooms.length ⟨rooms, traps, rs, N⟩ _ _ _ _ _ (HCOL.out _ _ HX3.out rfl rfl rfl rfl) HOK.out).mono ?_
          rintro e WX4 ⟨rd, td, ud, nd, D1, D2, D3, D4, nbd, rfl, hD1, hD2, hD3, hD4, hsD, hbD⟩
          have HX4 := Lib.hid (HX3.out.both hbD hsD)
          obtain ⟨gd, cd, rfl, hcd, _⟩ := int_row_cells (hsD.at 0 rfl) rfl hn0
          obtain ⟨td1, td2, rfl⟩ := owns_slice (hsD.at 1 rfl)
          obtain ⟨ud1, ud2, rfl⟩ := owns_slice (hsD.at 2 rfl)
          obtain ⟨⟨⟨fsd, hod, qx1⟩, qx2⟩, qx3⟩ : (pRowsI D4 rooms.length nd nbd N).told WX4 := hsD.at 3 rfl
          clear qx1 qx2 qx3
          obtain ⟨nd1, nd2, rfl⟩ := owns_slice hod
          have hzA := hbD.size
          clear hC hsD hbD hod
          have hC := boxCol_of (HX4.out.at 0 rfl)
          go_simp
          have HDD := Lib.hid (And.intro hD3 hzA)
          have HCD := Lib.hid hcd
          clear hD1 hD2 hD3 hD4 hcd hzA
          refine hK.out _ _ (fun _ => hC) ?_
          clear hK K
          (try simp only [Act.put, List.setIfInBounds_toArray, List.set_cons_zero, List.set_cons_succ])
          refine nextW (i := 6) rfl (by kernel_rfl) (by rfl) (fun K hK => ?_)
          have st := store_col _ _ _ _ _ _ _ (some ⟨ga, 0, none⟩) ta1 ua1 na1 rooms.length ca rooms.length ta2 rs.length ua2 N.length na2 (HX4.out.at 6 rfl)
          have HX5 := Lib.hid ((((HX4.out.setBlk 6 rfl 0 (.slice (some ⟨ga, 0, none⟩) rooms.length ca)).setBlk 6 rfl 1 (.slice ta1 rooms.length ta2)).setBlk 6 rfl 2 (.slice ua1 rs.length ua2)).setBlk 6 rfl 3 (.slice na1 N.length na2))
          refine op_store rfl rfl rfl st ?_
          clear st hC
          have hC := boxCol_of (HX5.out.at 0 rfl)
          refine hK.out _ _ (fun _ => hC) ?_
          clear hK K
          (try simp only [Act.put, List.setIfInBounds_toArray, List.set_cons_zero, List.set_cons_succ])
          refine nextW (i := 7) rfl (by kernel_rfl) (by rfl) (fun K hK => ?_)
          have st := store_col _ _ _ _ _ _ _ (some ⟨gd, 0, none⟩) td1 ud1 nd1 rooms.length cd rooms.length td2 rs.length ud2 N.length nd2 (HX5.out.at 7 rfl)
          have HX6 := Lib.hid ((((HX5.out.setBlk 7 rfl 0 (.slice (some ⟨gd, 0, none⟩) rooms.length cd)).setBlk 7 rfl 1 (.slice td1 rooms.length td2)).setBlk 7 rfl 2 (.slice ud1 rs.length ud2)).setBlk 7 rfl 3 (.slice nd1 N.length nd2))
          refine op_store rfl rfl rfl st ?_
          clear st hC
          refine hK.out _ _ (Till.done (by kernel_rfl)) ?_
          clear hK K
          (try simp only [Act.put, List.setIfInBounds_toArray, List.set_cons_zero, List.set_cons_succ])
          refine anyL_done (by kernel_rfl) ?_ _
          refine NoPanic.normal ?_
          have HF := Lib.hid (HX6.out.pick (ps' := twoParts b5 p2 v2 xs2 w1.heap.size (.slice ar rooms.length qr) (.slice at_ rooms.length qt) (.slice au rs.length qu) (.slice an N.length qn) rooms.length rooms traps rs nbN N (w4.heap.size) (WX1.heap.size)
            (.slice (some ⟨ga, 0, none⟩) rooms.length ca) (.slice ta1 rooms.length ta2) (.slice ua1 rs.length ua2) (.slice na1 N.length na2) (.slice (some ⟨gd, 0, none⟩) rooms.length cd) (.slice td1 rooms.length td2) (.slice ud1 rs.length ud2) (.slice nd1 N.length nd2) A1 A2 A3 A4 D1 D2 D3 D4 nba nbd ⟨rooms, traps, rs, N⟩ ⟨rooms, traps, rs, N⟩)
            [0, 1, 2, 3, 4, 5, 6, 7, 8, 9, 10, 11, 12, 13, 14, 15] (by decide) (by kernel_rfl))
          go_wp2_with fail
          go_meet
          have e1 := HA.out
          have e2 := HDD.out
          have e3 := HB4.out
          have e4 := HB5.out
          (try simp only [World.size_alloc, World.size_drew, World.alloc_drew] at e1 e2 e3 e4)
          exact ⟨_, _, rfl, rfl, TwoBegin.mk hn0 HCA.out HCD.out hr10 HRM.out HFE.out (by simp; omega) (by simp; omega) HF.out⟩
      · refine pickW (i := 5) rfl (by rfl) (fun K hK => ?_)
        go_simp
        have HX10 := HD.out.newBlk 26 #[.slice none 0 0, .slice none 0 0, .slice none 0 0, .slice none 0 0]
        (try simp only [World.size_alloc, World.size_drew, World.alloc_drew] at HX10)
        generalize hWB : World.alloc _ _ = WX1 at HX10 ⊢
        have hzB := congrArg (fun v : World => v.heap.size) hWB
        (try simp only [World.size_alloc, World.size_drew, World.alloc_drew] at hzB)
        have HB5 := Lib.hid hzB
        clear hzB
        have HX1 := Lib.hid HX10
        clear HX10 hWB
        clear hC
        have hC := boxCol_of (HX1.out.at 0 rfl)
        refine hK.out _ _ (fun _ => hC) ?_
        clear hK K
        (try simp only [Act.put, List.setIfInBounds_toArray, List.set_cons_zero, List.set_cons_succ])
        refine someL (rs := [1, 4]) (by kernel_rfl) (by simp) (all_cons ?_ (all_cons ?_ all_nil))
        · refine pickW (i := 1) rfl (by rfl) (fun K hK => ?_)
          go_simp
          refine (ownSep_any rooms.length ⟨rooms, traps, rs, N⟩ _ _ _ _ _ (HCOL.out _ _ HX1.out rfl rfl rfl rfl) HOK.out).mono ?_
          rintro e WX2 ⟨ra, ta, ua, na, A1, A2, A3, A4, nba, rfl, hA1, hA2, hA3, hA4, hsA, hbA⟩
          have HX2 := Lib.hid (HX1.out.both hbA hsA)
          obtain ⟨ga, ca, rfl, hca, _⟩ := int_row_cells (hsA.at 0 rfl) rfl hn0
          obtain ⟨ta1, ta2, rfl⟩ := owns_slice (hsA.at 1 rfl)
          obtain ⟨ua1, ua2, rfl⟩ := owns_slice (hsA.at 2 rfl)
          obtain ⟨⟨⟨fsa, hoa, qx1⟩, qx2⟩, qx3⟩ : (pRowsI A4 rooms.length na nba N).told WX2 := hsA.at 3 rfl
          clear qx1 qx2 qx3
          obtain ⟨na1, na2, rfl⟩ := owns_slice hoa
          have hzO := hbA.size
          clear hC hsA hbA hoa
          have hC := boxCol_of (HX2.out.at 0 rfl)
          go_simp
          have HA := Lib.hid (And.intro hA1 hzO)
          have HCA := Lib.hid hca
          clear hA1 hA2 hA3 hA4 hca hzO
          refine hK.out _ _ (fun _ => hC) ?_
          clear hK K
          (try simp only [Act.put, List.setIfInBounds_toArray, List.set_cons_zero, List.set_cons_succ])
          refine someL (rs := [3, 4]) (by kernel_rfl) (by simp) (all_cons ?_ (all_cons ?_ all_nil))
          · refine pickW (i := 3) rfl (by rfl) (fun K hK => ?_)
            go_simp
            refine (ownSep_any rooms.length ⟨rooms, traps, rs, N⟩ _ _ _ _ _ (HCOL.out _ _ HX2.out rfl rfl rfl rfl) HOK.out).mono ?_
            rintro e WX3 ⟨rd, td, ud, nd, D1, D2, D3, D4, nbd, rfl, hD1, hD2, hD3, hD4, hsD, hbD⟩
            have HX3 := Lib.hid (HX2.out.both hbD hsD)
            obtain ⟨gd, cd, rfl, hcd, _⟩ := int_row_cells (hsD.at 0 rfl) rfl hn0
            obtain ⟨td1, td2, rfl⟩ := owns_slice (hsD.at 1 rfl)
            obtain ⟨ud1, ud2, rfl⟩ := owns_slice (hsD.at 2 rfl)
            obtain ⟨⟨⟨fsd, hod, qx1⟩, qx2⟩, qx3⟩ : (pRowsI D4 rooms.length nd nbd N).told WX3 := hsD.at 3 rfl
            clear qx1 qx2 qx3
            obtain ⟨nd1, nd2, rfl⟩ := owns_slice hod
            have hzA := hbD.size
            clear hC hsD hbD hod
            have hC := boxCol_of (HX3.out.at 0 rfl)
            go_simp
            have HDD := Lib.hid (And.intro hD3 hzA)
            have HCD := Lib.hid hcd
            clear hD1 hD2 hD3 hD4 hcd hzA
            refine hK.out _ _ (fun _ => hC) ?_
            clear hK K
            (try simp only [Act.put, List.setIfInBounds_toArray, List.set_cons_zero, List.set_cons_succ])
            refine nextW (i := 4) rfl (by kernel_rfl) (by rfl) (fun K hK => ?_)
            go_simp
            have HX40 := HX3.out.newBlk 26 #[.slice none 0 0, .slice none 0 0, .slice none 0 0, .slice none 0 0]
            (try simp only [World.size_alloc, World.size_drew, World.alloc_drew] at HX40)
            generalize hWB : World.alloc _ _ = WX4 at HX40 ⊢
            have hzB := congrArg (fun v : World => v.heap.size) hWB
            (try simp only [World.size_alloc, World.size_drew, World.alloc_drew] at hzB)
            have HB4 := Lib.hid hzB
            clear hzB
            have HX4 := Lib.hid HX40
            clear HX40 hWB
            clear hC
            have hC := boxCol_of (HX4.out.at 0 rfl)
            refine hK.out _ _ (fun _ => hC) ?_
            clear hK K
            (try simp only [Act.put, List.setIfInBounds_toArray, List.set_cons_zero, List.set_cons_succ])
            refine nextW (i := 6) rfl (by kernel_rfl) (by rfl) (fun K hK => ?_)
            have st := store_col _ _ _ _ _ _ _ (some ⟨ga, 0, none⟩) ta1 ua1 na1 rooms.length ca rooms.length ta2 rs.length ua2 N.length na2 (HX4.out.at 15 rfl)
            have HX5 := Lib.hid ((((HX4.out.setBlk 15 rfl 0 (.slice (some ⟨ga, 0, none⟩) rooms.length ca)).setBlk 15 rfl 1 (.slice ta1 rooms.length ta2)).setBlk 15 rfl 2 (.slice ua1 rs.length ua2)).setBlk 15 rfl 3 (.slice na1 N.length na2))
            refine op_store rfl rfl rfl st ?_
            clear st hC
            have hC := boxCol_of (HX5.out.at 0 rfl)
            refine hK.out _ _ (fun _ => hC) ?_
            clear hK K
            (try simp only [Act.put, List.setIfInBounds_toArray, List.set_cons_zero, List.set_cons_succ])
            refine nextW (i := 7) rfl (by kernel_rfl) (by rfl) (fun K hK => ?_)
            have st := store_col _ _ _ _ _ _ _ (some ⟨gd, 0, none⟩) td1 ud1 nd1 rooms.length cd rooms.length td2 rs.length ud2 N.length nd2 (HX5.out.at 6 rfl)
            have HX6 := Lib.hid ((((HX5.out.setBlk 6 rfl 0 (.slice (some ⟨gd, 0, none⟩) rooms.length cd)).setBlk 6 rfl 1 (.slice td1 rooms.length td2)).setBlk 6 rfl 2 (.slice ud1 rs.length ud2)).setBlk 6 rfl 3 (.slice nd1 N.length nd2))
            refine op_store rfl rfl rfl st ?_
            clear st hC
            refine hK.out _ _ (Till.done (by kernel_rfl)) ?_
            clear hK K
            (try simp only [Act.put, List.setIfInBounds_toArray, List.set_cons_zero, List.set_cons_succ])
            refine anyL_done (by kernel_rfl) ?_ _
            refine NoPanic.normal ?_
            have HF := Lib.hid (HX6.out.pick (ps' := twoParts b5 p2 v2 xs2 w1.heap.size (.slice ar rooms.length qr) (.slice at_ rooms.length qt) (.slice au rs.length qu) (.slice an N.length qn) rooms.length rooms traps rs nbN N (WX3.heap.size) (w4.heap.size)
              (.slice (some ⟨ga, 0, none⟩) rooms.length ca) (.slice ta1 rooms.length ta2) (.slice ua1 rs.length ua2) (.slice na1 N.length na2) (.slice (some ⟨gd, 0, none⟩) rooms.length cd) (.slice td1 rooms.length td2) (.slice ud1 rs.length ud2) (.slice nd1 N.length nd2) A1 A2 A3 A4 D1 D2 D3 D4 nba nbd ⟨rooms, traps, rs, N⟩ ⟨rooms, traps, rs, N⟩)
              [0, 1, 2, 3, 4, 5, 15, 6, 7, 8, 9, 10, 11, 12, 13, 14] (by decide) (by kernel_rfl))
            go_wp2_with fail
            go_meet
            have e1 := HA.out
            have e2 := HDD.out
            have e3 := HB4.out
            have e4 := HB5.out
            (try simp only [World.size_alloc, World.size_drew, World.alloc_drew] at e1 e2 e3 e4)
            exact ⟨_, _, rfl, rfl, TwoBegin.mk hn0 HCA.out HCD.out hr10 HRM.out HFE.out (by simp; omega) (by simp; omega) HF.out⟩
          · refine pickW (i := 4) rfl (by rfl) (fun K hK => ?_)
            go_simp
            have HX30 := HX2.out.newBlk 26 #[.slice none 0 0, .slice none 0 0, .slice none 0 0, .slice none 0 0]
            (try simp only [World.size_alloc, World.size_drew, World.alloc_drew] at HX30)
            generalize hWB : World.alloc _ _ = WX3 at HX30 ⊢
            have hzB := congrArg (fun v : World => v.heap.size) hWB
            (try simp only [World.size_alloc, World.size_drew, World.alloc_drew] at hzB)
            have HB4 := Lib.hid hzB
            clear hzB
            have HX3 := Lib.hid HX30
            clear HX30 hWB
            clear hC
            have hC := boxCol_of (HX3.out.at 0 rfl)
            refine hK.out _ _ (fun _ => hC) ?_
            clear hK K
            (try simp only [Act.put, List.setIfInBounds_toArray, List.set_cons_zero, List.set_cons_succ])
            refine nextW (i := 3) rfl (by kernel_rfl) (by rfl) (fun K hK => ?_)
            go_simp
            refine (ownSep_any rooms.length ⟨rooms, traps, rs, N⟩ _ _ _ _ _ (HCOL.out _ _ HX3.out rfl rfl rfl rfl) HOK.out).mono ?_
            rintro e WX4 ⟨rd, td, ud, nd, D1, D2, D3, D4, nbd, rfl, hD1, hD2, hD3, hD4, hsD, hbD⟩
            have HX4 := Lib.hid (HX3.out.both hbD hsD)
            obtain ⟨gd, cd, rfl, hcd, _⟩ := int_row_cells (hsD.at 0 rfl) rfl hn0
            obtain ⟨td1, td2, rfl⟩ := owns_slice (hsD.at 1 rfl)
            obtain ⟨ud1, ud2, rfl⟩ := owns_slice (hsD.at 2 rfl)
            obtain ⟨⟨⟨fsd, hod, qx1⟩, qx2⟩, qx3⟩ : (pRowsI D4 rooms.length nd nbd N).told WX4 := hsD.at 3 rfl
            clear qx1 qx2 qx3
            obtain ⟨nd1, nd2, rfl⟩ := owns_slice hod
            have hzA := hbD.size
            clear hC hsD hbD hod
            have hC := boxCol_of (HX4.out.at 0 rfl)
            go_simp
            have HDD := Lib.hid (And.intro hD3 hzA)
            have HCD := Lib.hid hcd
            clear hD1 hD2 hD3 hD4 hcd hzA
            refine hK.out _ _ (fun _ => hC) ?_
            clear hK K
            (try simp only [Act.put, List.setIfInBounds_toArray, List.set_cons_zero, List.set_cons_succ])
            refine nextW (i := 6) rfl (by kernel_rfl) (by rfl) (fun K hK => ?_)
            have st := store_col _ _ _ _ _ _ _ (some ⟨ga, 0, none⟩) ta1 ua1 na1 rooms.length ca rooms.length ta2 rs.length ua2 N.length na2 (HX4.out.at 11 rfl)
            have HX5 := Lib.hid ((((HX4.out.setBlk 11 rfl 0 (.slice (some ⟨ga, 0, none⟩) rooms.length ca)).setBlk 11 rfl 1 (.slice ta1 rooms.length ta2)).setBlk 11 rfl 2 (.slice ua1 rs.length ua2)).setBlk 11 rfl 3 (.slice na1 N.length na2))
            refine op_store rfl rfl rfl st ?_
            clear st hC
            have hC := boxCol_of (HX5.out.at 0 rfl)
            refine hK.out _ _ (fun _ => hC) ?_
            clear hK K
            (try simp only [Act.put, List.setIfInBounds_toArray, List.set_cons_zero, List.set_cons_succ])
            refine nextW (i := 7) rfl (by kernel_rfl) (by rfl) (fun K hK => ?_)
            have st := store_col _ _ _ _ _ _ _ (some ⟨gd, 0, none⟩) td1 ud1 nd1 rooms.length cd rooms.length td2 rs.length ud2 N.length nd2 (HX5.out.at 6 rfl)
            have HX6 := Lib.hid ((((HX5.out.setBlk 6 rfl 0 (.slice (some ⟨gd, 0, none⟩) rooms.length cd)).setBlk 6 rfl 1 (.slice td1 rooms.length td2)).setBlk 6 rfl 2 (.slice ud1 rs.length ud2)).setBlk 6 rfl 3 (.slice nd1 N.length nd2))
            refine op_store rfl rfl rfl st ?_
            clear st hC
            refine hK.out _ _ (Till.done (by kernel_rfl)) ?_
            clear hK K
            (try simp only [Act.put, List.setIfInBounds_toArray, List.set_cons_zero, List.set_cons_succ])
            refine anyL_done (by kernel_rfl) ?_ _
            refine NoPanic.normal ?_
            have HF := Lib.hid (HX6.out.pick (ps' := twoParts b5 p2 v2 xs2 w1.heap.size (.slice ar rooms.length qr) (.slice at_ rooms.length qt) (.slice au rs.length qu) (.slice an N.length qn) rooms.length rooms traps rs nbN N (WX2.heap.size) (w4.heap.size)
              (.slice (some ⟨ga, 0, none⟩) rooms.length ca) (.slice ta1 rooms.length ta2) (.slice ua1 rs.length ua2) (.slice na1 N.length na2) (.slice (some ⟨gd, 0, none⟩) rooms.length cd) (.slice td1 rooms.length td2) (.slice ud1 rs.length ud2) (.slice nd1 N.length nd2) A1 A2 A3 A4 D1 D2 D3 D4 nba nbd ⟨rooms, traps, rs, N⟩ ⟨rooms, traps, rs, N⟩)
              [0, 1, 2, 3, 4, 5, 11, 6, 7, 8, 9, 10, 12, 13, 14, 15] (by decide) (by kernel_rfl))
            go_wp2_with fail
            go_meet
            have e1 := HA.out
            have e2 := HDD.out
            have e3 := HB4.out
            have e4 := HB5.out
            (try simp only [World.size_alloc, World.size_drew, World.alloc_drew] at e1 e2 e3 e4)
            exact ⟨_, _, rfl, rfl, TwoBegin.mk hn0 HCA.out HCD.out hr10 HRM.out HFE.out (by simp; omega) (by simp; omega) HF.out⟩
        · refine pickW (i := 4) rfl (by rfl) (fun K hK => ?_)
          go_simp
          have HX20 := HX1.out.newBlk 26 #[.slice none 0 0, .slice none 0 0, .slice none 0 0, .slice none 0 0]
          (try simp only [World.size_alloc, World.size_drew, World.alloc_drew] at HX20)
          generalize hWB : World.alloc _ _ = WX2 at HX20 ⊢
          have hzB := congrArg (fun v : World => v.heap.size) hWB
          (try simp only [World.size_alloc, World.size_drew, World.alloc_drew] at hzB)
          have HB4 := Lib.hid hzB
          clear hzB
          have HX2 := Lib.hid HX20
          clear HX20 hWB
          clear hC
          have hC := boxCol_of (HX2.out.at 0 rfl)
          refine hK.out _ _ (fun _ => hC) ?_
          clear hK K
          (try simp only [Act.put, List.setIfInBounds_toArray, List.set_cons_zero, List.set_cons_succ])
          refine nextW (i := 1) rfl (by kernel_rfl) (by rfl) (fun K hK => ?_)
          go_simp
          refine (ownSep_any rooms.length ⟨rooms, traps, rs, N⟩ _ _ _ _ _ (HCOL.out _ _ HX2.out rfl rfl rfl rfl) HOK.out).mono ?_
          rintro e WX3 ⟨ra, ta, ua, na, A1, A2, A3, A4, nba, rfl, hA1, hA2, hA3, hA4, hsA, hbA⟩
          have HX3 := Lib.hid (HX2.out.both hbA hsA)
          obtain ⟨ga, ca, rfl, hca, _⟩ := int_row_cells (hsA.at 0 rfl) rfl hn0
          obtain ⟨ta1, ta2, rfl⟩ := owns_slice (hsA.at 1 rfl)
          obtain ⟨ua1, ua2, rfl⟩ := owns_slice (hsA.at 2 rfl)
          obtain ⟨⟨⟨fsa, hoa, qx1⟩, qx2⟩, qx3⟩ : (pRowsI A4 rooms.length na nba N).told WX3 := hsA.at 3 rfl
          clear qx1 qx2 qx3
          obtain ⟨na1, na2, rfl⟩ := owns_slice hoa
          have hzO := hbA.size
          clear hC hsA hbA hoa
          have hC := boxCol_of (HX3.out.at 0 rfl)
          go_simp
          have HA := Lib.hid (And.intro hA1 hzO)
          have HCA := Lib.hid hca
          clear hA1 hA2 hA3 hA4 hca hzO
          refine hK.out _ _ (fun _ => hC) ?_
          clear hK K
          (try simp only [Act.put, List.setIfInBounds_toArray, List.set_cons_zero, List.set_cons_succ])
          refine nextW (i := 3) rfl (by kernel_rfl) (by rfl) (fun K hK => ?_)
          go_simp
          refine (ownSep_any rooms.length ⟨rooms, traps, rs, N⟩ _ _ _ _ _ (HCOL.out _ _ HX3.out rfl rfl rfl rfl) HOK.out).mono ?_
          rintro e WX4 ⟨rd, td, ud, nd, D1, D2, D3, D4, nbd, rfl, hD1, hD2, hD3, hD4, hsD, hbD⟩
          have HX4 := Lib.hid (HX3.out.both hbD hsD)
          obtain ⟨gd, cd, rfl, hcd, _⟩ := int_row_cells (hsD.at 0 rfl) rfl hn0
          obtain ⟨td1, td2, rfl⟩ := owns_slice (hsD.at 1 rfl)
          obtain ⟨ud1, ud2, rfl⟩ := owns_slice (hsD.at 2 rfl)
          obtain ⟨⟨⟨fsd, hod, qx1⟩, qx2⟩, qx3⟩ : (pRowsI D4 rooms.length nd nbd N).told WX4 := hsD.at 3 rfl
          clear qx1 qx2 qx3
          obtain ⟨nd1, nd2, rfl⟩ := owns_slice hod
          have hzA := hbD.size
          clear hC hsD hbD hod
          have hC := boxCol_of (HX4.out.at 0 rfl)
          go_simp
          have HDD := Lib.hid (And.intro hD3 hzA)
          have HCD := Lib.hid hcd
          clear hD1 hD2 hD3 hD4 hcd hzA
          refine hK.out _ _ (fun _ => hC) ?_
          clear hK K
          (try simp only [Act.put, List.setIfInBounds_toArray, List.set_cons_zero, List.set_cons_succ])
          refine nextW (i := 6) rfl (by kernel_rfl) (by rfl) (fun K hK => ?_)
          have st := store_col _ _ _ _ _ _ _ (some ⟨ga, 0, none⟩) ta1 ua1 na1 rooms.length ca rooms.length ta2 rs.length ua2 N.length na2 (HX4.out.at 7 rfl)
          have HX5 := Lib.hid ((((HX4.out.setBlk 7 rfl 0 (.slice (some ⟨ga, 0, none⟩) rooms.length ca)).setBlk 7 rfl 1 (.slice ta1 rooms.length ta2)).setBlk 7 rfl 2 (.slice ua1 rs.length ua2)).setBlk 7 rfl 3 (.slice na1 N.length na2))
          refine op_store rfl rfl rfl st ?_
          clear st hC
          have hC := boxCol_of (HX5.out.at 0 rfl)
          refine hK.out _ _ (fun _ => hC) ?_
          clear hK K
          (try simp only [Act.put, List.setIfInBounds_toArray, List.set_cons_zero, List.set_cons_succ])
          refine nextW (i := 7) rfl (by kernel_rfl) (by rfl) (fun K hK => ?_)
          have st := store_col _ _ _ _ _ _ _ (some ⟨gd, 0, none⟩) td1 ud1 nd1 rooms.length cd rooms.length td2 rs.length ud2 N.length nd2 (HX5.out.at 6 rfl)
          have HX6 := Lib.hid ((((HX5.out.setBlk 6 rfl 0 (.slice (some ⟨gd, 0, none⟩) rooms.length cd)).setBlk 6 rfl 1 (.slice td1 rooms.length td2)).setBlk 6 rfl 2 (.slice ud1 rs.length ud2)).setBlk 6 rfl 3 (.slice nd1 N.length nd2))
          refine op_store rfl rfl rfl st ?_
          clear st hC
          refine hK.out _ _ (Till.done (by kernel_rfl)) ?_
          clear hK K
          (try simp only [Act.put, List.setIfInBounds_toArray, List.set_cons_zero, List.set_cons_succ])
          refine anyL_done (by kernel_rfl) ?_ _
          refine NoPanic.normal ?_
          have HF := Lib.hid (HX6.out.pick (ps' := twoParts b5 p2 v2 xs2 w1.heap.size (.slice ar rooms.length qr) (.slice at_ rooms.length qt) (.slice au rs.length qu) (.slice an N.length qn) rooms.length rooms traps rs nbN N (WX1.heap.size) (w4.heap.size)
            (.slice (some ⟨ga, 0, none⟩) rooms.length ca) (.slice ta1 rooms.length ta2) (.slice ua1 rs.length ua2) (.slice na1 N.length na2) (.slice (some ⟨gd, 0, none⟩) rooms.length cd) (.slice td1 rooms.length td2) (.slice ud1 rs.length ud2) (.slice nd1 N.length nd2) A1 A2 A3 A4 D1 D2 D3 D4 nba nbd ⟨rooms, traps, rs, N⟩ ⟨rooms, traps, rs, N⟩)
            [0, 1, 2, 3, 4, 5, 7, 6, 8, 9, 10, 11, 12, 13, 14, 15] (by decide) (by kernel_rfl))
          go_wp2_with fail
          go_meet
          have e1 := HA.out
          have e2 := HDD.out
          have e3 := HB4.out
          have e4 := HB5.out
          (try simp only [World.size_alloc, World.size_drew, World.alloc_drew] at e1 e2 e3 e4)
          exact ⟨_, _, rfl, rfl, TwoBegin.mk hn0 HCA.out HCD.out hr10 HRM.out HFE.out (by simp; omega) (by simp; omega) HF.out⟩
  case rest =>
  obtain ⟨b11, b12, rfl, rfl, HT⟩ := hcut
  clear HI HFE HOK HRM HCK HM0 hr10 hn0 hn5
  obtain ⟨n, B, r0, qr, t0, qt, u0, qu, n0, qn, rooms, traps, rs, nb, N, g1, c1, t1, s1, u1, x1, m1, y1, g2, c2, t2, s2, u2, x2, m2, y2, A1, A2, A3, A4, D1, D2, D3, D4, nb1, nb2, hn0, hc1, hc2, hrl, hr10, hrm, hfe, hA1, hD3, hP⟩ := HT.out
  have hck := (fit_parts hfe).1
  have ok := okCol_of hck
  have hn6 : n ≤ 6 := by rw [← hrl]; exact ok.houses.2
  have HFE := Lib.hid hfe
  have HCK := Lib.hid hck
  have HRM := Lib.hid hrm
  have HRL := Lib.hid hrl
  have hNl : N.length ≤ 6 := ok.nights
  have HP := Lib.hid hP
  have HS0 := Lib.hid (And.intro hA1 hD3)
  have hlt0 := hP.size
  clear hfe hck hrm hrl hP HT ok hA1 hD3
  go_upto_region 4 with (fail)
  go_cut [] (fun wx => Hid (∃ R1, R1.length = n ∧ (∀ j, j < n → nth rooms j ≤ nth R1 j ∧ nth R1 j ≤ 13) ∧ D3 ≤ wx.heap.size ∧ PW w wx (twoParts b5 p2 v2 xs2 B (.slice r0 n qr) (.slice t0 n qt) (.slice u0 rs.length qu) (.slice n0 N.length qn) n rooms traps rs nb N b11 b12 (.slice (some ⟨g1, 0, none⟩) n c1) (.slice t1 n s1) (.slice u1 rs.length x1) (.slice m1 N.length y1) (.slice (some ⟨g2, 0, none⟩) n c2) (.slice t2 n s2) (.slice u2 rs.length x2) (.slice m2 N.length y2) A1 A2 A3 A4 D1 D2 D3 D4 nb1 nb2 ⟨R1, traps, rs, N⟩ ⟨rooms, traps, rs, N⟩)))
  case first =>
    as_aux_lemma =>
      have HD := Lib.hid HP.out.drew
      have hC : Box4r b11 b5 g1 n (.slice (some ⟨g1, 0, none⟩) n c1) (.slice r0 n qr) (nth rooms) wc.drew := ⟨(four_at (HD.out.at 6 rfl)).1, (four_at (HD.out.at 0 rfl)).1, fun j hj => row_cell (HD.out.at 8 rfl) HRL.out hj⟩
      obtain ⟨wd, hwd⟩ : ∃ wd, wc.drew = wd := ⟨_, rfl⟩
      have hsd : D3 ≤ wd.heap.size := by rw [← hwd]; exact HS0.out.2
      have HSD := Lib.hid hsd
      refine wp_region_noPanic ?_
      refine anyL_start (S := Till [13] (Box4r b11 b5 g1 n (.slice (some ⟨g1, 0, none⟩) n c1) (.slice r0 n qr) (nth rooms))) (by kernel_rfl) (fun _ => hC) (fun hT => ?_)
      clear hT
      rw [hwd] at HD hC ⊢
      clear hwd hsd HP
      refine takeL0 (i := 0) (d := 46) (v := ?_) rfl rfl (by kernel_rfl) (by kernel_rfl) (by kernel_rfl) (by kernel_rfl) (fun _ _ _ _ _ h => h) (by rfl) ?_ (fun _ => hC) ?_
      rotate_left
      · intro w
        go_simp
        try with_reducible rfl
      (try simp only [Act.put, List.setIfInBounds_toArray, List.set_cons_zero, List.set_cons_succ])
      refine takeL0 (i := 2) (d := 48) (v := ?_) rfl rfl (by kernel_rfl) (by kernel_rfl) (by kernel_rfl) (by kernel_rfl) (fun _ _ _ _ _ h => h) (by rfl) ?_ (fun _ => hC) ?_
      rotate_left
      · intro w
        go_simp
        try with_reducible rfl
      (try simp only [Act.put, List.setIfInBounds_toArray, List.set_cons_zero, List.set_cons_succ])
      refine takeL0 (i := 3) (d := 49) (v := ?_) rfl rfl (by kernel_rfl) (by kernel_rfl) (by kernel_rfl) (by kernel_rfl) (fun _ _ _ _ _ h => h) (by rfl) ?_ (fun _ => hC) ?_
      rotate_left
      · intro w
        go_simp
        try with_reducible rfl
      (try simp only [Act.put, List.setIfInBounds_toArray, List.set_cons_zero, List.set_cons_succ])
      refine takeL0 (i := 9) (d := 55) (v := ?_) rfl rfl (by kernel_rfl) (by kernel_rfl) (by kernel_rfl) (by kernel_rfl) (fun _ _ _ _ _ h => h) (by rfl) ?_ (fun _ => hC) ?_
      rotate_left
      · intro w
        go_simp
        try with_reducible rfl
      (try simp only [Act.put, List.setIfInBounds_toArray, List.set_cons_zero, List.set_cons_succ])
      refine takeL (i := 1) (d := 47) (v := ?_) rfl rfl (by kernel_rfl) (by kernel_rfl) (by kernel_rfl) (by kernel_rfl) (by kernel_rfl) (by kernel_rfl) (fun _ _ _ _ _ h => h) (by rfl) ?_ hC ?_
      rotate_left
      · intro w hSw
        (try dsimp only at hSw)
        obtain ⟨hS0, hS1, hS2⟩ := hSw
        go_simp
        try with_reducible rfl
      (try simp only [Act.put, List.setIfInBounds_toArray, List.set_cons_zero, List.set_cons_succ])
      refine takeL (i := 4) (d := 50) (v := ?_) rfl rfl (by kernel_rfl) (by kernel_rfl) (by kernel_rfl) (by kernel_rfl) (by kernel_rfl) (by kernel_rfl) (fun _ _ _ _ _ h => h) (by rfl) ?_ hC ?_
      rotate_left
      · intro w hSw
        (try dsimp only at hSw)
        obtain ⟨hS0, hS1, hS2⟩ := hSw
        go_simp
        try with_reducible rfl
      (try simp only [Act.put, List.setIfInBounds_toArray, List.set_cons_zero, List.set_cons_succ])
      refine takeL0 (i := 5) (d := 51) (v := ?_) rfl rfl (by kernel_rfl) (by kernel_rfl) (by kernel_rfl) (by kernel_rfl) (fun _ _ _ _ _ h => h) (by rfl) ?_ (fun _ => hC) ?_
      rotate_left
      · intro w
        go_simp
        try with_reducible rfl
      (try simp only [Act.put, List.setIfInBounds_toArray, List.set_cons_zero, List.set_cons_succ])
      refine nextW (i := 6) rfl (by kernel_rfl) (by rfl) (fun K hK => ?_)
      go_simp
      refine (wrap_any which n wd (by omega) (by omega)).mono ?_
      rintro e wq ⟨x, rfl, x0, x1, rfl⟩
      obtain ⟨h, rfl⟩ : ∃ h : Nat, x = h := ⟨x.toNat, by omega⟩
      have hh : h < n := by omega
      have hhi : (h : Int) < n := by omega
      clear x0 x1
      go_simp
      refine hK.out _ _ (fun _ => hC) ?_
      clear hK K
      (try simp only [Act.put, List.setIfInBounds_toArray, List.set_cons_zero, List.set_cons_succ])
      refine takeL0 (i := 7) (d := 53) (v := ?_) rfl rfl (by kernel_rfl) (by kernel_rfl) (by kernel_rfl) (by kernel_rfl) (fun _ _ _ _ _ h => h) (by rfl) ?_ (fun _ => hC) ?_
      rotate_left
      · intro w
        go_simp
        try with_reducible rfl
      (try simp only [Act.put, List.setIfInBounds_toArray, List.set_cons_zero, List.set_cons_succ])
      refine takeL (i := 8) (d := 54) (v := ?_) rfl rfl (by kernel_rfl) (by kernel_rfl) (by kernel_rfl) (by kernel_rfl) (by kernel_rfl) (by kernel_rfl) (fun _ _ _ _ _ h => h) (by rfl) ?_ hC ?_
      rotate_left
      · intro w hSw
        (try dsimp only at hSw)
        obtain ⟨hS0, hS1, hS2⟩ := hSw
        go_simp
        try with_reducible rfl
      (try simp only [Act.put, List.setIfInBounds_toArray, List.set_cons_zero, List.set_cons_succ])
      refine nextW (i := 10) rfl (by kernel_rfl) (by rfl) (fun K hK => ?_)
      go_simp
      refine (between_any p2 v2 xs2 1 5 wd (HD.out.chute 1 rfl HB.out.2) (by omega) (by omega) (by omega)).mono ?_
      rintro e w7 ⟨y, rfl, y0, y1', hc7, ht7⟩
      have HE := Lib.hid (HD.out.turn 1 rfl hc7 ht7)
      have hs7 := ht7.size
      have HS7 := Lib.hid (Nat.le_trans HSD.out hs7)
      have hrh := HRM.out h hh
      obtain ⟨X, hX⟩ : ∃ X, nth rooms h = X := ⟨_, rfl⟩
      have hws : IntKind.i64.wrap (X + y) = X + y := by rw [hX] at hrh; rw [IntKind.wrap_i64]; omega
      clear hc7 ht7 hC hs7
      have hC : Box4r b11 b5 g1 n (.slice (some ⟨g1, 0, none⟩) n c1) (.slice r0 n qr) (nth rooms) w7 := ⟨(four_at (HE.out.at 6 rfl)).1, (four_at (HE.out.at 0 rfl)).1, fun j hj => row_cell (HE.out.at 8 rfl) HRL.out hj⟩
      rw [hX]
      go_simp
      refine hK.out _ _ (fun _ => hC) ?_
      clear hK K
      (try simp only [Act.put, List.setIfInBounds_toArray, List.set_cons_zero, List.set_cons_succ])
      refine takeL0 (i := 11) (d := 57) (v := ?_) rfl rfl (by kernel_rfl) (by kernel_rfl) (by kernel_rfl) (by kernel_rfl) (fun _ _ _ _ _ h => h) (by rfl) ?_ (fun _ => hC) ?_
      rotate_left
      · intro w
        go_simp
        try with_reducible rfl
      (try simp only [Act.put, List.setIfInBounds_toArray, List.set_cons_zero, List.set_cons_succ])
      refine takeL0 (i := 12) (d := 58) (v := ?_) rfl rfl (by kernel_rfl) (by kernel_rfl) (by kernel_rfl) (by kernel_rfl) (fun _ _ _ _ _ h => h) (by rfl) ?_ (fun _ => hC) ?_
      rotate_left
      · intro w
        go_simp
        try with_reducible rfl
      (try simp only [Act.put, List.setIfInBounds_toArray, List.set_cons_zero, List.set_cons_succ])
      refine nextL (i := 13) rfl (by kernel_rfl) (fun K hK => ?_)
      have z0 := row_cell (HE.out.at 8 rfl) HRL.out hh
      have f0 := (HE.out.at 8 rfl).frozenAt h
      go_simp
      have HX := Lib.hid (HE.out.setRow 8 rfl h (.int .i64 (X + y)))
      generalize hwX : World.setCell _ _ _ = wX at HX ⊢
      have hsX := congrArg (fun v : World => v.heap.size) hwX
      (try simp only [World.size_setCell] at hsX)
      have HSX := Lib.hid hsX
      clear z0 f0 hwX hC hsX
      refine hK.out _ _ (Till.done (by kernel_rfl)) ?_
      clear hK K
      (try simp only [Act.put, List.setIfInBounds_toArray, List.set_cons_zero, List.set_cons_succ])
      refine anyL_done (by kernel_rfl) ?_ _
      refine NoPanic.normal ?_
      go_wp2_with fail
      go_meet
      have hrX : h < rooms.length := by rw [HRL.out]; exact hh
      refine ⟨rooms.set h (X + y), by rw [List.length_set]; exact HRL.out, fun j hj => ?_, by have := HS7.out; have := HSX.out; omega, HX.out.same (by rw [intsL_set]; rfl)⟩
      have hj' := HRM.out j hj
      rw [nth_set _ hrX]
      split
      · rename_i e; subst e; rw [hX] at hj' ⊢; omega
      · omega
  case rest =>
  obtain ⟨R1, hr1l, hr1, hd3, hP⟩ := hcut.out
  have HP := Lib.hid hP
  have HR1 := Lib.hid (And.intro hr1l hr1)
  have HD3 := Lib.hid hd3
  have HCOL : Hid (∀ W ps, PW w W ps → ps[2]? = some (pRow B 3 1 n (.slice r0 n qr) (intsV rooms)) → ps[3]? = some (pRow B 3 1 n (.slice t0 n qt) (intsV traps)) → ps[4]? = some (pRow B 63 2 rs.length (.slice u0 rs.length qu) (pairsV rs)) → ps[5]? = some (pRows B n (.slice n0 N.length qn) nb N) → ColAt W W.heap.size (.slice r0 n qr) (.slice t0 n qt) (.slice u0 rs.length qu) (.slice n0 N.length qn) ⟨rooms, traps, rs, N⟩) := fun W ps H e2 e3 e4 e5 => made_read HCK.out HRL.out (H.at 2 e2) (H.at 3 e3) (H.at 4 e4) (H.at 5 e5)
  clear hcut hr1l hr1 hd3 hP HS0
  go_upto_region 5 with (fail)
  go_cut [13] (fun s13 wx => ∃ b13, s13 = .pointer (some ⟨b13, 0, none⟩) ∧ Hid (∃ a b : Nat, a < n ∧ b < n ∧ D3 ≤ wx.heap.size ∧ PW w wx (twoParts b5 p2 v2 xs2 B (.slice r0 n qr) (.slice t0 n qt) (.slice u0 rs.length qu) (.slice n0 N.length qn) n rooms traps rs nb N b11 b12 (.slice (some ⟨g1, 0, none⟩) n c1) (.slice t1 n s1) (.slice u1 rs.length x1) (.slice m1 N.length y1) (.slice (some ⟨g2, 0, none⟩) n c2) (.slice t2 n s2) (.slice u2 rs.length x2) (.slice m2 N.length y2) A1 A2 A3 A4 D1 D2 D3 D4 nb1 nb2 ⟨R1, traps, rs, N⟩ ⟨rooms, traps, rs, N⟩ ++ [pBlk b13 63 #[.int .i64 a, .int .i64 b]])))
  case first =>
    as_aux_lemma =>
      have HD := Lib.hid HP.out.drew
      have hC : Box1 b5 0 (.slice r0 n qr) wc.drew := ⟨(four_at (HD.out.at 0 rfl)).1, trivial⟩
      obtain ⟨wd, hwd⟩ : ∃ wd, wc.drew = wd := ⟨_, rfl⟩
      have hsd : D3 ≤ wd.heap.size := by rw [← hwd]; exact HD3.out
      have HSD := Lib.hid hsd
      refine wp_region_noPanic ?_
      refine anyL_start (S := Till [12] (Box1 b5 0 (.slice r0 n qr))) (by kernel_rfl) (fun _ => hC) (fun hT => ?_)
      clear hT
      rw [hwd] at HD hC ⊢
      clear hwd hsd HP
      refine takeL0 (i := 0) (d := 59) (v := ?_) rfl rfl (by kernel_rfl) (by kernel_rfl) (by kernel_rfl) (by kernel_rfl) (fun _ _ _ _ _ h => h) (by rfl) ?_ (fun _ => hC) ?_
      rotate_left
      · intro w
        go_simp
        try with_reducible rfl
      (try simp only [Act.put, List.setIfInBounds_toArray, List.set_cons_zero, List.set_cons_succ])
      refine takeL0 (i := 1) (d := 60) (v := ?_) rfl rfl (by kernel_rfl) (by kernel_rfl) (by kernel_rfl) (by kernel_rfl) (fun _ _ _ _ _ h => h) (by rfl) ?_ (fun _ => hC) ?_
      rotate_left
      · intro w
        go_simp
        try with_reducible rfl
      (try simp only [Act.put, List.setIfInBounds_toArray, List.set_cons_zero, List.set_cons_succ])
      refine takeL0 (i := 5) (d := 64) (v := ?_) rfl rfl (by kernel_rfl) (by kernel_rfl) (by kernel_rfl) (by kernel_rfl) (fun _ _ _ _ _ h => h) (by rfl) ?_ (fun _ => hC) ?_
      rotate_left
      · intro w
        go_simp
        try with_reducible rfl
      (try simp only [Act.put, List.setIfInBounds_toArray, List.set_cons_zero, List.set_cons_succ])
      refine takeL0 (i := 6) (d := 65) (v := ?_) rfl rfl (by kernel_rfl) (by kernel_rfl) (by kernel_rfl) (by kernel_rfl) (fun _ _ _ _ _ h => h) (by rfl) ?_ (fun _ => hC) ?_
      rotate_left
      · intro w
        go_simp
        try with_reducible rfl
      (try simp only [Act.put, List.setIfInBounds_toArray, List.set_cons_zero, List.set_cons_succ])
      refine takeL (i := 2) (d := 61) (v := ?_) rfl rfl (by kernel_rfl) (by kernel_rfl) (by kernel_rfl) (by kernel_rfl) (by kernel_rfl) (by kernel_rfl) (fun _ _ _ _ _ h => h) (by rfl) ?_ hC ?_
      rotate_left
      · intro w hSw
        (try dsimp only at hSw)
        obtain ⟨hS0, hS1⟩ := hSw
        go_simp
        try with_reducible rfl
      (try simp only [Act.put, List.setIfInBounds_toArray, List.set_cons_zero, List.set_cons_succ])
      refine takeL0 (i := 3) (d := 62) (v := ?_) rfl rfl (by kernel_rfl) (by kernel_rfl) (by kernel_rfl) (by kernel_rfl) (fun _ _ _ _ _ h => h) (by rfl) ?_ (fun _ => hC) ?_
      rotate_left
      · intro w
        go_simp
        try with_reducible rfl
      (try simp only [Act.put, List.setIfInBounds_toArray, List.set_cons_zero, List.set_cons_succ])
      refine takeL (i := 7) (d := 66) (v := ?_) rfl rfl (by kernel_rfl) (by kernel_rfl) (by kernel_rfl) (by kernel_rfl) (by kernel_rfl) (by kernel_rfl) (fun _ _ _ _ _ h => h) (by rfl) ?_ hC ?_
      rotate_left
      · intro w hSw
        (try dsimp only at hSw)
        obtain ⟨hS0, hS1⟩ := hSw
        go_simp
        try with_reducible rfl
      (try simp only [Act.put, List.setIfInBounds_toArray, List.set_cons_zero, List.set_cons_succ])
      refine takeL0 (i := 8) (d := 67) (v := ?_) rfl rfl (by kernel_rfl) (by kernel_rfl) (by kernel_rfl) (by kernel_rfl) (fun _ _ _ _ _ h => h) (by rfl) ?_ (fun _ => hC) ?_
      rotate_left
      · intro w
        go_simp
        try with_reducible rfl
      (try simp only [Act.put, List.setIfInBounds_toArray, List.set_cons_zero, List.set_cons_succ])
      refine someL (rs := [4, 11]) (by kernel_rfl) (by simp) (all_cons ?_ (all_cons ?_ all_nil))
      · refine pickW (i := 4) rfl (by rfl) (fun K hK => ?_)
        go_simp
        refine (pull_any p2 v2 xs2 n wd (HD.out.chute 1 rfl HB.out.2) (by omega) (by omega)).mono ?_
        rintro e WX1 ⟨xa, rfl, xa0, xa1, hcA, htA⟩
        obtain ⟨a, rfl⟩ : ∃ a : Nat, xa = a := ⟨xa.toNat, by omega⟩
        have ha : a < n := by omega
        have HX1 := Lib.hid (HD.out.turn 1 rfl hcA htA)
        have HZA := Lib.hid htA.size
        clear hC hcA htA xa0 xa1
        have hC : Box1 b5 0 (.slice r0 n qr) WX1 := ⟨(four_at (HX1.out.at 0 rfl)).1, trivial⟩
        go_simp
        refine hK.out _ _ (fun _ => hC) ?_
        clear hK K
        (try simp only [Act.put, List.setIfInBounds_toArray, List.set_cons_zero, List.set_cons_succ])
        refine someL (rs := [9, 11]) (by kernel_rfl) (by simp) (all_cons ?_ (all_cons ?_ all_nil))
        · refine pickW (i := 9) rfl (by rfl) (fun K hK => ?_)
          go_simp
          refine (pull_any p2 v2 xs2 n WX1 (HX1.out.chute 1 rfl HB.out.2) (by omega) (by omega)).mono ?_
          rintro e WX2 ⟨xb, rfl, xb0, xb1, hcB, htB⟩
          obtain ⟨b, rfl⟩ : ∃ b : Nat, xb = b := ⟨xb.toNat, by omega⟩
          have hb : b < n := by omega
          have HX2 := Lib.hid (HX1.out.turn 1 rfl hcB htB)
          have HZB := Lib.hid htB.size
          clear hC hcB htB xb0 xb1
          have hC : Box1 b5 0 (.slice r0 n qr) WX2 := ⟨(four_at (HX2.out.at 0 rfl)).1, trivial⟩
          go_simp
          refine hK.out _ _ (fun _ => hC) ?_
          clear hK K
          (try simp only [Act.put, List.setIfInBounds_toArray, List.set_cons_zero, List.set_cons_succ])
          refine takeL0 (i := 10) (d := 69) (v := ?_) rfl rfl (by kernel_rfl) (by kernel_rfl) (by kernel_rfl) (by kernel_rfl) (fun _ _ _ _ _ h => h) (by rfl) ?_ (fun _ => hC) ?_
          rotate_left
          · intro w
            go_simp
            try with_reducible rfl
          (try simp only [Act.put, List.setIfInBounds_toArray, List.set_cons_zero, List.set_cons_succ])
          refine nextW (i := 11) rfl (by kernel_rfl) (by rfl) (fun K hK => ?_)
          go_simp
          have HX30 := HX2.out.newBlk 63 #[.int .i64 0, .int .i64 0]
          (try simp only [World.size_alloc, World.size_drew, World.alloc_drew] at HX30)
          generalize hWB : World.alloc _ _ = WX3 at HX30 ⊢
          have hzB := congrArg (fun v : World => v.heap.size) hWB
          (try simp only [World.size_alloc, World.size_drew, World.alloc_drew] at hzB)
          have HZC := Lib.hid hzB
          clear hzB hC
          have HX3 := Lib.hid HX30
          clear HX30 hWB
          have hC : Box1 b5 0 (.slice r0 n qr) WX3 := ⟨(four_at (HX3.out.at 0 rfl)).1, trivial⟩
          refine hK.out _ _ (fun _ => hC) ?_
          clear hK K
          (try simp only [Act.put, List.setIfInBounds_toArray, List.set_cons_zero, List.set_cons_succ])
          refine nextW (i := 12) rfl (by kernel_rfl) (by rfl) (fun K hK => ?_)
          have st := store_box2 _ _ _ _ _ (a : Int) (b : Int) (HX3.out.at 16 rfl)
          have HX4 := Lib.hid ((HX3.out.setBlk 16 rfl 0 (.int .i64 a)).setBlk 16 rfl 1 (.int .i64 b))
          refine op_store rfl rfl rfl st ?_
          clear st hC
          refine hK.out _ _ (Till.done (by kernel_rfl)) ?_
          clear hK K
          (try simp only [Act.put, List.setIfInBounds_toArray, List.set_cons_zero, List.set_cons_succ])
          refine anyL_done (by kernel_rfl) ?_ _
          refine NoPanic.normal ?_
          have HF := Lib.hid (HX4.out.pick (ps' := twoParts b5 p2 v2 xs2 B (.slice r0 n qr) (.slice t0 n qt) (.slice u0 rs.length qu) (.slice n0 N.length qn) n rooms traps rs nb N b11 b12 (.slice (some ⟨g1, 0, none⟩) n c1) (.slice t1 n s1) (.slice u1 rs.length x1) (.slice m1 N.length y1) (.slice (some ⟨g2, 0, none⟩) n c2) (.slice t2 n s2) (.slice u2 rs.length x2) (.slice m2 N.length y2) A1 A2 A3 A4 D1 D2 D3 D4 nb1 nb2 ⟨R1, traps, rs, N⟩ ⟨rooms, traps, rs, N⟩ ++ [pBlk (WX2.heap.size) 63 #[.int .i64 a, .int .i64 b]]) [0, 1, 2, 3, 4, 5, 6, 7, 8, 9, 10, 11, 12, 13, 14, 15, 16] (by decide) (by kernel_rfl))
          go_wp2_with fail
          go_meet
          have e1 := HZA.out
          have e2 := HZB.out
          have e3 := HZC.out
          have e4 := HSD.out
          exact ⟨_, rfl, a, b, ha, hb, by simp; omega, HF.out⟩
        · refine pickW (i := 11) rfl (by rfl) (fun K hK => ?_)
          go_simp
          have HX20 := HX1.out.newBlk 63 #[.int .i64 0, .int .i64 0]
          (try simp only [World.size_alloc, World.size_drew, World.alloc_drew] at HX20)
          generalize hWB : World.alloc _ _ = WX2 at HX20 ⊢
          have hzB := congrArg (fun v : World => v.heap.size) hWB
          (try simp only [World.size_alloc, World.size_drew, World.alloc_drew] at hzB)
          have HZC := Lib.hid hzB
          clear hzB hC
          have HX2 := Lib.hid HX20
          clear HX20 hWB
          have hC : Box1 b5 0 (.slice r0 n qr) WX2 := ⟨(four_at (HX2.out.at 0 rfl)).1, trivial⟩
          refine hK.out _ _ (fun _ => hC) ?_
          clear hK K
          (try simp only [Act.put, List.setIfInBounds_toArray, List.set_cons_zero, List.set_cons_succ])
          refine nextW (i := 9) rfl (by kernel_rfl) (by rfl) (fun K hK => ?_)
          go_simp
          refine (pull_any p2 v2 xs2 n WX2 (HX2.out.chute 1 rfl HB.out.2) (by omega) (by omega)).mono ?_
          rintro e WX3 ⟨xb, rfl, xb0, xb1, hcB, htB⟩
          obtain ⟨b, rfl⟩ : ∃ b : Nat, xb = b := ⟨xb.toNat, by omega⟩
          have hb : b < n := by omega
          have HX3 := Lib.hid (HX2.out.turn 1 rfl hcB htB)
          have HZB := Lib.hid htB.size
          clear hC hcB htB xb0 xb1
          have hC : Box1 b5 0 (.slice r0 n qr) WX3 := ⟨(four_at (HX3.out.at 0 rfl)).1, trivial⟩
          go_simp
          refine hK.out _ _ (fun _ => hC) ?_
          clear hK K
          (try simp only [Act.put, List.setIfInBounds_toArray, List.set_cons_zero, List.set_cons_succ])
          refine takeL0 (i := 10) (d := 69) (v := ?_) rfl rfl (by kernel_rfl) (by kernel_rfl) (by kernel_rfl) (by kernel_rfl) (fun _ _ _ _ _ h => h) (by rfl) ?_ (fun _ => hC) ?_
          rotate_left
          · intro w
            go_simp
            try with_reducible rfl
          (try simp only [Act.put, List.setIfInBounds_toArray, List.set_cons_zero, List.set_cons_succ])
          refine nextW (i := 12) rfl (by kernel_rfl) (by rfl) (fun K hK => ?_)
          have st := store_box2 _ _ _ _ _ (a : Int) (b : Int) (HX3.out.at 16 rfl)
          have HX4 := Lib.hid ((HX3.out.setBlk 16 rfl 0 (.int .i64 a)).setBlk 16 rfl 1 (.int .i64 b))
          refine op_store rfl rfl rfl st ?_
          clear st hC
          refine hK.out _ _ (Till.done (by kernel_rfl)) ?_
          clear hK K
          (try simp only [Act.put, List.setIfInBounds_toArray, List.set_cons_zero, List.set_cons_succ])
          refine anyL_done (by kernel_rfl) ?_ _
          refine NoPanic.normal ?_
          have HF := Lib.hid (HX4.out.pick (ps' := twoParts b5 p2 v2 xs2 B (.slice r0 n qr) (.slice t0 n qt) (.slice u0 rs.length qu) (.slice n0 N.length qn) n rooms traps rs nb N b11 b12 (.slice (some ⟨g1, 0, none⟩) n c1) (.slice t1 n s1) (.slice u1 rs.length x1) (.slice m1 N.length y1) (.slice (some ⟨g2, 0, none⟩) n c2) (.slice t2 n s2) (.slice u2 rs.length x2) (.slice m2 N.length y2) A1 A2 A3 A4 D1 D2 D3 D4 nb1 nb2 ⟨R1, traps, rs, N⟩ ⟨rooms, traps, rs, N⟩ ++ [pBlk (WX1.heap.size) 63 #[.int .i64 a, .int .i64 b]]) [0, 1, 2, 3, 4, 5, 6, 7, 8, 9, 10, 11, 12, 13, 14, 15, 16] (by decide) (by kernel_rfl))
          go_wp2_with fail
          go_meet
          have e1 := HZA.out
          have e2 := HZB.out
          have e3 := HZC.out
          have e4 := HSD.out
          exact ⟨_, rfl, a, b, ha, hb, by simp; omega, HF.out⟩
      · refine pickW (i := 11) rfl (by rfl) (fun K hK => ?_)
        go_simp
        have HX10 := HD.out.newBlk 63 #[.int .i64 0, .int .i64 0]
        (try simp only [World.size_alloc, World.size_drew, World.alloc_drew] at HX10)
        generalize hWB : World.alloc _ _ = WX1 at HX10 ⊢
        have hzB := congrArg (fun v : World => v.heap.size) hWB
        (try simp only [World.size_alloc, World.size_drew, World.alloc_drew] at hzB)
        have HZC := Lib.hid hzB
        clear hzB hC
        have HX1 := Lib.hid HX10
        clear HX10 hWB
        have hC : Box1 b5 0 (.slice r0 n qr) WX1 := ⟨(four_at (HX1.out.at 0 rfl)).1, trivial⟩
        refine hK.out _ _ (fun _ => hC) ?_
        clear hK K
        (try simp only [Act.put, List.setIfInBounds_toArray, List.set_cons_zero, List.set_cons_succ])
        refine nextW (i := 4) rfl (by kernel_rfl) (by rfl) (fun K hK => ?_)
        go_simp
        refine (pull_any p2 v2 xs2 n WX1 (HX1.out.chute 1 rfl HB.out.2) (by omega) (by omega)).mono ?_
        rintro e WX2 ⟨xa, rfl, xa0, xa1, hcA, htA⟩
        obtain ⟨a, rfl⟩ : ∃ a : Nat, xa = a := ⟨xa.toNat, by omega⟩
        have ha : a < n := by omega
        have HX2 := Lib.hid (HX1.out.turn 1 rfl hcA htA)
        have HZA := Lib.hid htA.size
        clear hC hcA htA xa0 xa1
        have hC : Box1 b5 0 (.slice r0 n qr) WX2 := ⟨(four_at (HX2.out.at 0 rfl)).1, trivial⟩
        go_simp
        refine hK.out _ _ (fun _ => hC) ?_
        clear hK K
        (try simp only [Act.put, List.setIfInBounds_toArray, List.set_cons_zero, List.set_cons_succ])
        refine nextW (i := 9) rfl (by kernel_rfl) (by rfl) (fun K hK => ?_)
        go_simp
        refine (pull_any p2 v2 xs2 n WX2 (HX2.out.chute 1 rfl HB.out.2) (by omega) (by omega)).mono ?_
        rintro e WX3 ⟨xb, rfl, xb0, xb1, hcB, htB⟩
        obtain ⟨b, rfl⟩ : ∃ b : Nat, xb = b := ⟨xb.toNat, by omega⟩
        have hb : b < n := by omega
        have HX3 := Lib.hid (HX2.out.turn 1 rfl hcB htB)
        have HZB := Lib.hid htB.size
        clear hC hcB htB xb0 xb1
        have hC : Box1 b5 0 (.slice r0 n qr) WX3 := ⟨(four_at (HX3.out.at 0 rfl)).1, trivial⟩
        go_simp
        refine hK.out _ _ (fun _ => hC) ?_
        clear hK K
        (try simp only [Act.put, List.setIfInBounds_toArray, List.set_cons_zero, List.set_cons_succ])
        refine takeL0 (i := 10) (d := 69) (v := ?_) rfl rfl (by kernel_rfl) (by kernel_rfl) (by kernel_rfl) (by kernel_rfl) (fun _ _ _ _ _ h => h) (by rfl) ?_ (fun _ => hC) ?_
        rotate_left
        · intro w
          go_simp
          try with_reducible rfl
        (try simp only [Act.put, List.setIfInBounds_toArray, List.set_cons_zero, List.set_cons_succ])
        refine nextW (i := 12) rfl (by kernel_rfl) (by rfl) (fun K hK => ?_)
        have st := store_box2 _ _ _ _ _ (a : Int) (b : Int) (HX3.out.at 16 rfl)
        have HX4 := Lib.hid ((HX3.out.setBlk 16 rfl 0 (.int .i64 a)).setBlk 16 rfl 1 (.int .i64 b))
        refine op_store rfl rfl rfl st ?_
        clear st hC
        refine hK.out _ _ (Till.done (by kernel_rfl)) ?_
        clear hK K
        (try simp only [Act.put, List.setIfInBounds_toArray, List.set_cons_zero, List.set_cons_succ])
        refine anyL_done (by kernel_rfl) ?_ _
        refine NoPanic.normal ?_
        have HF := Lib.hid (HX4.out.pick (ps' := twoParts b5 p2 v2 xs2 B (.slice r0 n qr) (.slice t0 n qt) (.slice u0 rs.length qu) (.slice n0 N.length qn) n rooms traps rs nb N b11 b12 (.slice (some ⟨g1, 0, none⟩) n c1) (.slice t1 n s1) (.slice u1 rs.length x1) (.slice m1 N.length y1) (.slice (some ⟨g2, 0, none⟩) n c2) (.slice t2 n s2) (.slice u2 rs.length x2) (.slice m2 N.length y2) A1 A2 A3 A4 D1 D2 D3 D4 nb1 nb2 ⟨R1, traps, rs, N⟩ ⟨rooms, traps, rs, N⟩ ++ [pBlk (wd.heap.size) 63 #[.int .i64 a, .int .i64 b]]) [0, 1, 2, 3, 4, 5, 6, 7, 8, 9, 10, 11, 12, 13, 14, 15, 16] (by decide) (by kernel_rfl))
        go_wp2_with fail
        go_meet
        have e1 := HZA.out
        have e2 := HZB.out
        have e3 := HZC.out
        have e4 := HSD.out
        exact ⟨_, rfl, a, b, ha, hb, by simp; omega, HF.out⟩
  case rest =>
  obtain ⟨b13, rfl, HQ⟩ := hcut
  obtain ⟨a, b, ha, hb, hd3, hP⟩ := HQ.out
  have hai : (a : Int) < n := by omega
  have hbi : (b : Int) < n := by omega
  clear HP HD3 HQ
  have HP := Lib.hid hP
  have HD3 := Lib.hid hd3
  clear hP hd3
  go_step
  go_step
  go_cut [] (fun wx => Hid (∃ rs2 a3 q3, checkC ⟨rooms, traps, rs2, N⟩ = 0 ∧ MoreCol ⟨rooms, traps, rs, N⟩ ⟨rooms, traps, rs2, N⟩ ∧ PW w wx (twoParts b5 p2 v2 xs2 B (.slice r0 n qr) (.slice t0 n qt) (.slice u0 rs.length qu) (.slice n0 N.length qn) n rooms traps rs nb N b11 b12 (.slice (some ⟨g1, 0, none⟩) n c1) (.slice t1 n s1) (.slice u1 rs.length x1) (.slice m1 N.length y1) (.slice (some ⟨g2, 0, none⟩) n c2) (.slice t2 n s2) (.slice a3 rs2.length q3) (.slice m2 N.length y2) A1 A2 A3 A4 D1 D2 D3 D4 nb1 nb2 ⟨R1, traps, rs, N⟩ ⟨rooms, traps, rs2, N⟩)))
  case first =>
    as_aux_lemma =>
      obtain ⟨k0, k1, k2, k3⟩ := four_at (HP.out.at 0 rfl)
      obtain ⟨h0, h1'⟩ := two_at (HP.out.at 16 rfl)
      by_cases hab : (a : Int) = b
      · go_wp2_with fail
        go_meet
        exact ⟨rs, u2, x2, HCK.out, moreCol_room rfl (fun _ _ => Int.le_refl _), HP.out.left (qs := [_])⟩
      · go_wp2_with fail
        refine (more_any (.slice u0 rs.length qu) rs b13 a b wc (HCOL.out _ _ HP.out rfl rfl rfl rfl).2.2.1 (HP.out.at 16 rfl)).mono ?_
        rintro e w5 ⟨rfl, hb5⟩
        have HM5 := Lib.hid (HP.out.below hb5)
        have HS5 := Lib.hid (Nat.le_trans HD3.out hb5.size)
        clear hb5 k0 k1 k2 k3 h0 h1' HP
        cases ht : anyB (fun i => joinsB (nthP rs i) a b) rs.length
        · have k2 := (four_at (HM5.out.at 7 rfl)).2.2.1
          obtain ⟨h0, h1'⟩ := two_at (HM5.out.at 16 rfl)
          have HT := Lib.hid ht
          have HM6 := Lib.hid (HM5.out.alloc (.cells #[.int .i64 a, .int .i64 b] 63))
          clear ht
          go_wp2_with (at_builtin; refine HM6.out.list_pair (n := rs.length) (u := .slice u2 rs.length x2) 14 rs ((a : Int), (b : Int)) rfl (by have := HS5.out; simp; omega) (by omega) rfl _ _ rfl rfl w5.heap.size rfl (World.news_of_block (heap_alloc_new _ _)) ?_)
          intro g7 cap7 w7 hm7 _ _
          have z2 := (four_at (hm7.at 7 rfl)).2.2.1
          have f2 := box_free (hm7.at 7 rfl) 2
          have HM8 := Lib.hid (hm7.setBlk 7 rfl 2 (.slice (some ⟨g7, 0, none⟩) (rs.length + 1) cap7))
          clear hm7 h0 h1' k2
          go_wp2_with fail
          go_meet
          have hn : ∀ j, j < rs.length → joinsB (nthP rs j) (a : Int) (b : Int) = false := fun j hj => by
            cases q : joinsB (nthP rs j) (a : Int) (b : Int)
            · rfl
            · have := (anyB_ex (fun i => joinsB (nthP rs i) (a : Int) (b : Int)) rs.length).2 ⟨j, hj, q⟩
              rw [HT.out] at this; cases this
          refine ⟨rs ++ [((a : Int), (b : Int))], some ⟨g7, 0, none⟩, cap7, run_check HCK.out (by omega) ⟨by omega, by rw [HRL.out]; omega⟩ ⟨by omega, by rw [HRL.out]; omega⟩ hab hn, moreCol_run _, ?_⟩
          have e1 : (rs ++ [((a : Int), (b : Int))]).length = rs.length + 1 := by simp
          unfold twoParts ownParts
          simp only [e1]
          exact HM8.out.pick [0, 1, 2, 3, 4, 5, 6, 7, 8, 9, 10, 11, 12, 13, 14, 15] (by decide) (by kernel_rfl)
        · go_wp2_with fail
          go_meet
          exact ⟨rs, u2, x2, HCK.out, moreCol_room rfl (fun _ _ => Int.le_refl _), HM5.out.left (qs := [_])⟩
  case rest =>
  obtain ⟨rs2, a3, q3, hck2, hmc2, hP⟩ := hcut.out
  clear HP HD3 hcut ha hb hai hbi
  have hck1 : checkC ⟨R1, traps, rs, N⟩ = 0 := rooms_check HCK.out (by rw [HR1.out.1]; exact HRL.out.symm) (fun j hj => by
    have h1 := HR1.out.2 j (by rw [← HRL.out]; exact hj)
    have h2 := HRM.out j (by rw [← HRL.out]; exact hj)
    omega)
  have hmc1 : MoreCol ⟨rooms, traps, rs, N⟩ ⟨R1, traps, rs, N⟩ := moreCol_room (by rw [HR1.out.1, HRL.out]) (fun h hh => (HR1.out.2 h (by rw [← HRL.out]; exact hh)).1)
  have hc1' : ∀ W, PW w W (twoParts b5 p2 v2 xs2 B (.slice r0 n qr) (.slice t0 n qt) (.slice u0 rs.length qu) (.slice n0 N.length qn) n rooms traps rs nb N b11 b12 (.slice (some ⟨g1, 0, none⟩) n c1) (.slice t1 n s1) (.slice u1 rs.length x1) (.slice m1 N.length y1) (.slice (some ⟨g2, 0, none⟩) n c2) (.slice t2 n s2) (.slice a3 rs2.length q3) (.slice m2 N.length y2) A1 A2 A3 A4 D1 D2 D3 D4 nb1 nb2 ⟨R1, traps, rs, N⟩ ⟨rooms, traps, rs2, N⟩) → ColAt W W.heap.size (.slice (some ⟨g1, 0, none⟩) n c1) (.slice t1 n s1) (.slice u1 rs.length x1) (.slice m1 N.length y1) ⟨R1, traps, rs, N⟩ := fun W H => cols_read hck1 HR1.out.1 (H.at 8 rfl) (H.at 9 rfl) (H.at 10 rfl) (H.at 11 rfl).1
  have hc2' : ∀ W, PW w W (twoParts b5 p2 v2 xs2 B (.slice r0 n qr) (.slice t0 n qt) (.slice u0 rs.length qu) (.slice n0 N.length qn) n rooms traps rs nb N b11 b12 (.slice (some ⟨g1, 0, none⟩) n c1) (.slice t1 n s1) (.slice u1 rs.length x1) (.slice m1 N.length y1) (.slice (some ⟨g2, 0, none⟩) n c2) (.slice t2 n s2) (.slice a3 rs2.length q3) (.slice m2 N.length y2) A1 A2 A3 A4 D1 D2 D3 D4 nb1 nb2 ⟨R1, traps, rs, N⟩ ⟨rooms, traps, rs2, N⟩) → ColAt W W.heap.size (.slice (some ⟨g2, 0, none⟩) n c2) (.slice t2 n s2) (.slice a3 rs2.length q3) (.slice m2 N.length y2) ⟨rooms, traps, rs2, N⟩ := fun W H => cols_read hck2 HRL.out (H.at 12 rfl) (H.at 13 rfl) (H.at 14 rfl) (H.at 15 rfl).1
  have hc0' : ∀ W, PW w W (twoParts b5 p2 v2 xs2 B (.slice r0 n qr) (.slice t0 n qt) (.slice u0 rs.length qu) (.slice n0 N.length qn) n rooms traps rs nb N b11 b12 (.slice (some ⟨g1, 0, none⟩) n c1) (.slice t1 n s1) (.slice u1 rs.length x1) (.slice m1 N.length y1) (.slice (some ⟨g2, 0, none⟩) n c2) (.slice t2 n s2) (.slice a3 rs2.length q3) (.slice m2 N.length y2) A1 A2 A3 A4 D1 D2 D3 D4 nb1 nb2 ⟨R1, traps, rs, N⟩ ⟨rooms, traps, rs2, N⟩) → ColAt W W.heap.size (.slice r0 n qr) (.slice t0 n qt) (.slice u0 rs.length qu) (.slice n0 N.length qn) ⟨rooms, traps, rs, N⟩ := fun W H => HCOL.out W _ H rfl rfl rfl rfl
  obtain ⟨PS, hPS⟩ : ∃ PS, twoParts b5 p2 v2 xs2 B (.slice r0 n qr) (.slice t0 n qt) (.slice u0 rs.length qu) (.slice n0 N.length qn) n rooms traps rs nb N b11 b12 (.slice (some ⟨g1, 0, none⟩) n c1) (.slice t1 n s1) (.slice u1 rs.length x1) (.slice m1 N.length y1) (.slice (some ⟨g2, 0, none⟩) n c2) (.slice t2 n s2) (.slice a3 rs2.length q3) (.slice m2 N.length y2) A1 A2 A3 A4 D1 D2 D3 D4 nb1 nb2 ⟨R1, traps, rs, N⟩ ⟨rooms, traps, rs2, N⟩ = PS := ⟨_, rfl⟩
  have HPS := Lib.hid hPS
  have h6 := four_at (hP.at 6 rfl)
  have h7 := four_at (hP.at 7 rfl)
  have h0 := four_at (hP.at 0 rfl)
  have e0 : PS[0]? = some (pBlk b5 26 #[.slice r0 n qr, .slice t0 n qt, .slice u0 rs.length qu, .slice n0 N.length qn]) := by rw [← hPS]; rfl
  have e1 : PS[1]? = some (pChute p2 v2 xs2) := by rw [← hPS]; rfl
  have e6 : PS[6]? = some (pBlk b11 26 #[.slice (some ⟨g1, 0, none⟩) n c1, .slice t1 n s1, .slice u1 rs.length x1, .slice m1 N.length y1]) := by rw [← hPS]; rfl
  have e7 : PS[7]? = some (pBlk b12 26 #[.slice (some ⟨g2, 0, none⟩) n c2, .slice t2 n s2, .slice a3 rs2.length q3, .slice m2 N.length y2]) := by rw [← hPS]; rfl
  rw [hPS] at hP hc1' hc2' hc0'
  have HE := Lib.hid (And.intro e0 (And.intro e1 (And.intro e6 e7)))
  obtain ⟨C, hCe⟩ : ∃ C : Col, (⟨rooms, traps, rs, N⟩ : Col) = C := ⟨_, rfl⟩
  obtain ⟨O1, hO1⟩ : ∃ O : Col, (⟨R1, traps, rs, N⟩ : Col) = O := ⟨_, rfl⟩
  obtain ⟨O2, hO2⟩ : ∃ O : Col, (⟨rooms, traps, rs2, N⟩ : Col) = O := ⟨_, rfl⟩
  have hfe := HFE.out
  rw [hCe] at hfe hmc1 hmc2 hc0'
  rw [hO1] at hmc1 hck1 hc1'
  rw [hO2] at hmc2 hck2 hc2'
  have hcl : C.rooms.length = n := by rw [← hCe]; exact HRL.out
  have hl1 := more_law hmc1 hfe hck1 hcl
  have hl2 := more_law hmc2 hfe hck2 hcl
  obtain ⟨lo, hlo⟩ : ∃ lo, (ratsC C).1 = lo := ⟨_, rfl⟩
  obtain ⟨hi, hhi⟩ : ∃ hi, (ratsC C).2 = hi := ⟨_, rfl⟩
  have HLH := Lib.hid (And.intro hlo hhi)
  have HFC := Lib.hid hfe
  have HCC := Lib.hid hc0'
  have HCL := Lib.hid hcl
  have HAL : Hid ((afterC C).length = n) := (afterTo_len _ _).trans hcl
  have HNL : Hid ((needC C).length = n) := (needTo_len _ _).trans hcl
  have HLL := Lib.hid (And.intro hl1 hl2)
  have HC12 := Lib.hid (And.intro hc1' hc2')
  have HP := Lib.hid hP
  have HLEN : Hid (PS.length = 16) := by rw [← HPS.out]; exact rfl
  clear hCe hO1 hO2 hfe hmc1 hmc2 hck1 hck2 hc0' hc1' hc2' hcl hl1 hl2 hlo hhi hPS h6 h7 h0 e0 e1 e6 e7 hP HFE HCK HRM HRL HR1 HCOL
  have HEO : Hid (∀ k x qs, PS[k]? = some x → (PS ++ qs)[k]? = some x) := fun k x qs h => by
    rw [List.getElem?_append_left (List.getElem?_eq_some_iff.1 h).1]; exact h
  have HX : Hid (∀ qs k x, qs[k]? = some x → (PS ++ qs)[16 + k]? = some x) := fun qs k x h => by rw [List.getElem?_append_right (by rw [HLEN.out]; omega), HLEN.out, show 16 + k - 16 = k by omega]; exact h
  have HS6 : Hid (∀ a b c d e f x y, (PS ++ [a, b, c, d, e, f, x]).set 22 y = PS ++ [a, b, c, d, e, f, y]) := fun a b c d e f x y => by rw [List.set_append_right _ _ (by rw [HLEN.out]; omega), HLEN.out]; rfl
  obtain ⟨k0, k1, k2, k3⟩ := four_at (HP.out.at 0 HE.out.1)
  go_wp2_with fail
  refine (Rats_ok C _ _ _ _ wc (HCC.out _ HP.out) HFC.out).mono ?_
  rintro e w5 ⟨rfl, hb5⟩
  rw [HLH.out.1, HLH.out.2]
  have H5 := Lib.hid ((HP.out.below hb5).newBlk 49 #[.int .i64 lo, .int .i64 hi])
  clear hb5 HP k0 k1 k2 k3
  go_upto_region 9 with (fail)
  generalize Value.tuple #[Value.agg _, _] = q88
  obtain ⟨W5, hW5⟩ : ∃ W5, w5.alloc (.cells #[.int .i64 lo, .int .i64 hi] 49) = W5 := ⟨_, rfl⟩
  obtain ⟨b14, hb14⟩ : ∃ b14, w5.heap.size = b14 := ⟨_, rfl⟩
  have h5 := H5.out
  rw [hW5, hb14] at h5
  rw [hW5, hb14]
  have H5 := Lib.hid h5
  clear hW5 hb14
  obtain ⟨k0, k1, k2, k3⟩ := four_at (h5.at 0 (HEO.out 0 _ _ HE.out.1))
  clear h5
  go_wp2_with fail
  refine (After_own C _ _ _ _ W5 (HCC.out _ H5.out.left) HFC.out).mono ?_
  rintro e w6 ⟨av, rfl, hs6, hb6⟩
  rw [HCL.out] at hs6
  obtain ⟨ga, ca, rfl, _, _⟩ := int_row_cells hs6 HAL.out hn0
  obtain ⟨BA, hBA⟩ : ∃ BA, W5.heap.size = BA := ⟨_, rfl⟩
  have h6 := H5.out.push (pRow W5.heap.size 3 1 n (.slice (some ⟨ga, 0, none⟩) n ca) (intsV (afterC C))) hb6 hs6 (fun k hk => hs6.lt k hk)
  rw [hBA] at h6
  have H6 := Lib.hid h6
  clear hb6 hs6 H5 k0 k1 k2 k3 hBA
  obtain ⟨k0, k1, k2, k3⟩ := four_at ((h6.same (List.append_assoc _ _ _)).at 0 (HEO.out 0 _ _ HE.out.1))
  clear h6
  go_wp2_with fail
  refine (Need_own C _ _ _ _ w6 (HCC.out _ H6.out.left.left) HFC.out).mono ?_
  rintro e w7 ⟨dv, rfl, hs7, hb7⟩
  rw [HCL.out] at hs7
  obtain ⟨gd, cd, rfl, _, _⟩ := int_row_cells hs7 HNL.out hn0
  obtain ⟨BD, hBD⟩ : ∃ BD, w6.heap.size = BD := ⟨_, rfl⟩
  have h7 := H6.out.push (pRow w6.heap.size 3 1 n (.slice (some ⟨gd, 0, none⟩) n cd) (intsV (needC C))) hb7 hs7 (fun k hk => hs7.lt k hk)
  rw [hBD] at h7
  have h7 := h7.same (ps' := PS ++ [pBlk b14 49 #[.int .i64 lo, .int .i64 hi], pRow BA 3 1 n (.slice (some ⟨ga, 0, none⟩) n ca) (intsV (afterC C)), pRow BD 3 1 n (.slice (some ⟨gd, 0, none⟩) n cd) (intsV (needC C))]) (by simp)
  clear hb7 hs7 H6 k0 k1 k2 k3 hBD
  obtain ⟨k0, k1, k2, k3⟩ := four_at (h7.at 6 (HEO.out 6 _ _ HE.out.2.2.1))
  obtain ⟨j0, j1, j2, j3⟩ := four_at (h7.at 7 (HEO.out 7 _ _ HE.out.2.2.2))
  have H7 := Lib.hid (h7.newBlk 26 #[.slice (some ⟨g1, 0, none⟩) n c1, .slice t1 n s1, .slice u1 rs.length x1, .slice m1 N.length y1, .slice (some ⟨g2, 0, none⟩) n c2, .slice t2 n s2, .slice a3 rs2.length q3, .slice m2 N.length y2])
  clear h7
  go_wp2_with fail
  obtain ⟨W7, hW7⟩ : ∃ W7, w7.alloc (.cells #[.slice (some ⟨g1, 0, none⟩) n c1, .slice t1 n s1, .slice u1 rs.length x1, .slice m1 N.length y1, .slice (some ⟨g2, 0, none⟩) n c2, .slice t2 n s2, .slice a3 rs2.length q3, .slice m2 N.length y2] 26) = W7 := ⟨_, rfl⟩
  obtain ⟨b105, hb105⟩ : ∃ b105, w7.heap.size = b105 := ⟨_, rfl⟩
  have h7 := H7.out
  rw [hW7, hb105] at h7
  rw [hW7, hb105]
  have H7 := Lib.hid (h7.same (ps' := PS ++ [pBlk b14 49 #[.int .i64 lo, .int .i64 hi], pRow BA 3 1 n (.slice (some ⟨ga, 0, none⟩) n ca) (intsV (afterC C)), pRow BD 3 1 n (.slice (some ⟨gd, 0, none⟩) n cd) (intsV (needC C)), pBlk b105 26 #[.slice (some ⟨g1, 0, none⟩) n c1, .slice t1 n s1, .slice u1 rs.length x1, .slice m1 N.length y1, .slice (some ⟨g2, 0, none⟩) n c2, .slice t2 n s2, .slice a3 rs2.length q3, .slice m2 N.length y2]]) (by simp))
  clear hW7 hb105 h7 k0 k1 k2 k3 j0 j1 j2 j3
  go_loopw [107] (fun i wr => ∃ c : Nat, c ≤ 2 ∧ i = .int .i64 c ∧ Hid (PW w wr (PS ++ [pBlk b14 49 #[.int .i64 lo, .int .i64 hi], pRow BA 3 1 n (.slice (some ⟨ga, 0, none⟩) n ca) (intsV (afterC C)), pRow BD 3 1 n (.slice (some ⟨gd, 0, none⟩) n cd) (intsV (needC C)), pBlk b105 26 #[.slice (some ⟨g1, 0, none⟩) n c1, .slice t1 n s1, .slice u1 rs.length x1, .slice m1 N.length y1, .slice (some ⟨g2, 0, none⟩) n c2, .slice t2 n s2, .slice a3 rs2.length q3, .slice m2 N.length y2]]))) (fun i _ => 2 - (intOf i).toNat)
  case atStart => exact ⟨0, Nat.zero_le _, rfl, H7⟩
  case round =>
    obtain ⟨c, hc, rfl, HR⟩ := hrel
    by_cases hlt : c < 2
    · as_aux_lemma =>
        have hci : (c : Int) < 2 := by omega
        have hO : ∃ (a0 a1 a2 a4 : Option Addr) (l2 z0 z1 z2 z3 : Nat) (O : Col), (wr.cell? ⟨b105, c * 4, none⟩ = some (.slice a0 n z0) ∧ wr.cell? ⟨b105, c * 4 + 1, none⟩ = some (.slice a1 n z1) ∧ wr.cell? ⟨b105, c * 4 + 2, none⟩ = some (.slice a2 l2 z2) ∧ wr.cell? ⟨b105, c * 4 + 3, none⟩ = some (.slice a4 N.length z3)) ∧
            (∀ W, PW w W PS → ColAt W W.heap.size (.slice a0 n z0) (.slice a1 n z1) (.slice a2 l2 z2) (.slice a4 N.length z3) O) ∧ MoreLaw n C O := by
          have hcs := cell_of_row wr b105
          have hbk : wr.heap[b105]? = _ := HR.out.at 19 (HX.out _ 3 _ rfl)
          rcases (by omega : c = 0 ∨ c = 1) with rfl | rfl
          · exact ⟨_, _, _, _, _, _, _, _, _, O1, ⟨(hcs _ _ _ _ hbk).trans rfl, (hcs _ _ _ _ hbk).trans rfl, (hcs _ _ _ _ hbk).trans rfl, (hcs _ _ _ _ hbk).trans rfl⟩, HC12.out.1, HLL.out.1⟩
          · exact ⟨_, _, _, _, _, _, _, _, _, O2, ⟨(hcs _ _ _ _ hbk).trans rfl, (hcs _ _ _ _ hbk).trans rfl, (hcs _ _ _ _ hbk).trans rfl, (hcs _ _ _ _ hbk).trans rfl⟩, HC12.out.2, HLL.out.2⟩
        obtain ⟨a0, a1, a2, a4, l2, z0, z1, z2, z3, O, ⟨d0, d1, d2, d3⟩, hcO, hlO⟩ := hO
        have HCO := Lib.hid hcO
        have HLO := Lib.hid hlO
        have H13 := Lib.hid (HR.out.newBlk 26 #[.slice a0 n z0, .slice a1 n z1, .slice a2 l2 z2, .slice a4 N.length z3])
        clear hcO hlO H7
        go_upto_region 14 with (fail)
        obtain ⟨W13, hW13⟩ : ∃ W13, wr.alloc (.cells #[.slice a0 n z0, .slice a1 n z1, .slice a2 l2 z2, .slice a4 N.length z3] 26) = W13 := ⟨_, rfl⟩
        obtain ⟨b21, hb21⟩ : ∃ b21, wr.heap.size = b21 := ⟨_, rfl⟩
        have h13 := H13.out
        rw [hW13, hb21] at h13
        rw [hW13, hb21]
        have H13 := Lib.hid (h13.same (ps' := PS ++ [pBlk b14 49 #[.int .i64 lo, .int .i64 hi], pRow BA 3 1 n (.slice (some ⟨ga, 0, none⟩) n ca) (intsV (afterC C)), pRow BD 3 1 n (.slice (some ⟨gd, 0, none⟩) n cd) (intsV (needC C)), pBlk b105 26 #[.slice (some ⟨g1, 0, none⟩) n c1, .slice t1 n s1, .slice u1 rs.length x1, .slice m1 N.length y1, .slice (some ⟨g2, 0, none⟩) n c2, .slice t2 n s2, .slice a3 rs2.length q3, .slice m2 N.length y2], pBlk b21 26 #[.slice a0 n z0, .slice a1 n z1, .slice a2 l2 z2, .slice a4 N.length z3]]) (by simp))
        obtain ⟨k0, k1, k2, k3⟩ := four_at (H13.out.at 20 (HX.out _ 4 _ rfl))
        clear hW13 hb21 h13 d0 d1 d2 d3 HR
        go_wp2_with fail
        refine (Rats_ok O _ _ _ _ W13 (HCO.out _ H13.out.left) HLO.out.fit).mono ?_
        rintro e w14 ⟨rfl, hb14⟩
        obtain ⟨hi2, hhi2⟩ : ∃ hi2, (ratsC O).2 = hi2 := ⟨_, rfl⟩
        have hle := HLO.out.hi
        rw [HLH.out.2, hhi2] at hle
        have hnlt : ¬ hi2 < hi := by omega
        rw [HLO.out.lo, HLH.out.1, hhi2]
        have H14 := Lib.hid ((H13.out.below hb14).newBlk 49 #[.int .i64 lo, .int .i64 hi2])
        clear hb14 H13 k0 k1 k2 k3 hhi2 hle
        go_upto_region 15 with (fail)
        generalize Value.tuple #[Value.agg _, _] = q111
        obtain ⟨W14, hW14⟩ : ∃ W14, w14.alloc (.cells #[.int .i64 lo, .int .i64 hi2] 49) = W14 := ⟨_, rfl⟩
        obtain ⟨b22, hb22⟩ : ∃ b22, w14.heap.size = b22 := ⟨_, rfl⟩
        have h14 := H14.out
        rw [hW14, hb22] at h14
        rw [hW14, hb22]
        have H14 := Lib.hid (h14.same (ps' := PS ++ [pBlk b14 49 #[.int .i64 lo, .int .i64 hi], pRow BA 3 1 n (.slice (some ⟨ga, 0, none⟩) n ca) (intsV (afterC C)), pRow BD 3 1 n (.slice (some ⟨gd, 0, none⟩) n cd) (intsV (needC C)), pBlk b105 26 #[.slice (some ⟨g1, 0, none⟩) n c1, .slice t1 n s1, .slice u1 rs.length x1, .slice m1 N.length y1, .slice (some ⟨g2, 0, none⟩) n c2, .slice t2 n s2, .slice a3 rs2.length q3, .slice m2 N.length y2], pBlk b21 26 #[.slice a0 n z0, .slice a1 n z1, .slice a2 l2 z2, .slice a4 N.length z3], pBlk b22 49 #[.int .i64 lo, .int .i64 hi2]]) (by simp))
        obtain ⟨k0, k1, k2, k3⟩ := four_at (H14.out.at 20 (HX.out _ 4 _ rfl))
        clear hW14 hb22 h14
        go_wp2_with fail
        refine (After_ok O _ _ _ _ W14 (HCO.out _ H14.out.left) HLO.out.fit).mono ?_
        rintro e w15 ⟨av2, rfl, hs15, hb15⟩
        obtain ⟨pa, qa2, rfl, _, _, _⟩ := hs15.open
        rw [HLO.out.lenA] at hs15 ⊢
        have H15 := Lib.hid (And.intro (H14.out.below hb15) hs15)
        clear hb15 hs15 H14 k0 k1 k2 k3
        obtain ⟨k0, k1, k2, k3⟩ := four_at (H15.out.1.at 20 (HX.out _ 4 _ rfl))
        go_wp2_with fail
        refine (Need_ok O _ _ _ _ w15 (HCO.out _ H15.out.1.left) HLO.out.fit).mono ?_
        rintro e w16 ⟨dv2, rfl, hs16, hb16⟩
        obtain ⟨pd, qd2, rfl, _, _, _⟩ := hs16.open
        rw [HLO.out.lenN] at hs16 ⊢
        have H16 : Hid (MdAt w (PS ++ [pBlk b14 49 #[.int .i64 lo, .int .i64 hi], pRow BA 3 1 n (.slice (some ⟨ga, 0, none⟩) n ca) (intsV (afterC C)), pRow BD 3 1 n (.slice (some ⟨gd, 0, none⟩) n cd) (intsV (needC C)), pBlk b105 26 #[.slice (some ⟨g1, 0, none⟩) n c1, .slice t1 n s1, .slice u1 rs.length x1, .slice m1 N.length y1, .slice (some ⟨g2, 0, none⟩) n c2, .slice t2 n s2, .slice a3 rs2.length q3, .slice m2 N.length y2], pBlk b21 26 #[.slice a0 n z0, .slice a1 n z1, .slice a2 l2 z2, .slice a4 N.length z3], pBlk b22 49 #[.int .i64 lo, .int .i64 hi2]]) (.slice pa n qa2) (.slice pd n qd2) (afterC O) (needC O) w16) := ⟨H15.out.1.below hb16, (H15.out.2.below hb16 (Nat.le_refl _)).mono hb16.size, hs16⟩
        clear hb16 hs16 H15 k0 k1 k2 k3
        obtain ⟨k0, k1⟩ := two_at (H16.out.pw.at 21 (HX.out _ 5 _ rfl))
        obtain ⟨j0, j1⟩ := two_at (H16.out.pw.at 16 (HX.out _ 0 _ rfl))
        go_wp2_with fail
        clear k0 k1 j0 j1
        obtain ⟨wo1, rfl⟩ : ∃ wo1 : World, wo1 = w16 := ⟨_, rfl⟩
        go_loopw [178] (fun i wq => ∃ h : Nat, h ≤ n ∧ i = .int .i64 h ∧ Hid (MdAt w (PS ++ [pBlk b14 49 #[.int .i64 lo, .int .i64 hi], pRow BA 3 1 n (.slice (some ⟨ga, 0, none⟩) n ca) (intsV (afterC C)), pRow BD 3 1 n (.slice (some ⟨gd, 0, none⟩) n cd) (intsV (needC C)), pBlk b105 26 #[.slice (some ⟨g1, 0, none⟩) n c1, .slice t1 n s1, .slice u1 rs.length x1, .slice m1 N.length y1, .slice (some ⟨g2, 0, none⟩) n c2, .slice t2 n s2, .slice a3 rs2.length q3, .slice m2 N.length y2], pBlk b21 26 #[.slice a0 n z0, .slice a1 n z1, .slice a2 l2 z2, .slice a4 N.length z3], pBlk b22 49 #[.int .i64 lo, .int .i64 hi2]]) (.slice pa n qa2) (.slice pd n qd2) (afterC O) (needC O) wq)) (fun i _ => n - (intOf i).toNat)
        case atStart => exact ⟨0, Nat.zero_le _, rfl, H16⟩
        case round =>
          obtain ⟨h, hh, rfl, HQ⟩ := hrel
          by_cases hhn : h < n
          · as_aux_lemma =>
              have hhi2 : (h : Int) < n := by omega
              clear H16
              go_upto_region 22 with (fail)
              obtain ⟨x1', y1', e1, _, _, f1⟩ := HQ.out.after.open
              obtain ⟨ba, oa, e2, _, s1'⟩ := f1 h (by rw [HLO.out.lenA]; exact hhn)
              have e3 : pa = x1' := by injection e1
              subst e3
              subst e2
              obtain ⟨x2', y2', e4, _, _, f2⟩ := HQ.out.need.open
              obtain ⟨bd, od, e5, _, s2'⟩ := f2 h (by rw [HLO.out.lenN]; exact hhn)
              have e6 : pd = x2' := by injection e4
              subst e6
              subst e5
              have s3 := row_cell (HQ.out.pw.at 17 (HX.out _ 1 _ rfl)) HAL.out hhn
              have s4 := row_cell (HQ.out.pw.at 18 (HX.out _ 2 _ rfl)) HNL.out hhn
              obtain ⟨l1, l2'⟩ := HLO.out.each h hhn
              obtain ⟨X1, hX1⟩ : ∃ X, nth (afterC O) h = X := ⟨_, rfl⟩
              obtain ⟨X2, hX2⟩ : ∃ X, nth (needC O) h = X := ⟨_, rfl⟩
              obtain ⟨X3, hX3⟩ : ∃ X, nth (afterC C) h = X := ⟨_, rfl⟩
              obtain ⟨X4, hX4⟩ : ∃ X, nth (needC C) h = X := ⟨_, rfl⟩
              rw [hX1] at s1' l1
              rw [hX2] at s2' l2'
              rw [hX3] at s3 l1
              rw [hX4] at s4 l2'
              have hC : Box22 ba (oa + h) bd (od + h) ga gd h X1 X2 X3 X4 wr.drew := ⟨s1', s3, s2', s4⟩
              have q1 : decide (X1 < X3) = false := decide_eq_false (by omega)
              have q2 : decide (X2 < X4) = false := decide_eq_false (by omega)
              have HD := Lib.hid HQ.out.drew
              clear f1 f2 e1 e4 s1' s2' s3 s4 hX1 hX2 hX3 hX4 l1 l2' HQ
              refine wp_region_noPanic ?_
              refine anyL_start (S := Till [] (Box22 ba (oa + h) bd (od + h) ga gd h X1 X2 X3 X4)) (by kernel_rfl) (fun _ => hC) (fun hT => ?_)
              refine takeL0 (i := 0) (d := 181) (v := ?_) rfl rfl (by kernel_rfl) (by kernel_rfl) (by kernel_rfl) (by kernel_rfl) (fun _ _ _ _ _ h => h) (by rfl) ?_ (fun _ => hC) ?_
              rotate_left
              · intro w
                go_simp
                try with_reducible rfl
              (try simp only [Act.put, List.setIfInBounds_toArray, List.set_cons_zero, List.set_cons_succ])
              refine takeL0 (i := 1) (d := 182) (v := ?_) rfl rfl (by kernel_rfl) (by kernel_rfl) (by kernel_rfl) (by kernel_rfl) (fun _ _ _ _ _ h => h) (by rfl) ?_ (fun _ => hC) ?_
              rotate_left
              · intro w
                go_simp
                try with_reducible rfl
              (try simp only [Act.put, List.setIfInBounds_toArray, List.set_cons_zero, List.set_cons_succ])
              refine takeL0 (i := 2) (d := 183) (v := ?_) rfl rfl (by kernel_rfl) (by kernel_rfl) (by kernel_rfl) (by kernel_rfl) (fun _ _ _ _ _ h => h) (by rfl) ?_ (fun _ => hC) ?_
              rotate_left
              · intro w
                go_simp
                try with_reducible rfl
              (try simp only [Act.put, List.setIfInBounds_toArray, List.set_cons_zero, List.set_cons_succ])
              refine takeL0 (i := 4) (d := 185) (v := ?_) rfl rfl (by kernel_rfl) (by kernel_rfl) (by kernel_rfl) (by kernel_rfl) (fun _ _ _ _ _ h => h) (by rfl) ?_ (fun _ => hC) ?_
              rotate_left
              · intro w
                go_simp
                try with_reducible rfl
              (try simp only [Act.put, List.setIfInBounds_toArray, List.set_cons_zero, List.set_cons_succ])
              refine takeL0 (i := 5) (d := 186) (v := ?_) rfl rfl (by kernel_rfl) (by kernel_rfl) (by kernel_rfl) (by kernel_rfl) (fun _ _ _ _ _ h => h) (by rfl) ?_ (fun _ => hC) ?_
              rotate_left
              · intro w
                go_simp
                try with_reducible rfl
              (try simp only [Act.put, List.setIfInBounds_toArray, List.set_cons_zero, List.set_cons_succ])
              refine takeL0 (i := 6) (d := 187) (v := ?_) rfl rfl (by kernel_rfl) (by kernel_rfl) (by kernel_rfl) (by kernel_rfl) (fun _ _ _ _ _ h => h) (by rfl) ?_ (fun _ => hC) ?_
              rotate_left
              · intro w
                go_simp
                try with_reducible rfl
              (try simp only [Act.put, List.setIfInBounds_toArray, List.set_cons_zero, List.set_cons_succ])
              refine takeL (i := 3) (d := 184) (v := ?_) rfl rfl (by kernel_rfl) (by kernel_rfl) (by kernel_rfl) (by kernel_rfl) (by kernel_rfl) (by kernel_rfl) (fun _ _ _ _ _ h => h) (by rfl) ?_ hC ?_
              rotate_left
              · intro w hSw
                (try dsimp only at hSw)
                obtain ⟨hS0, hS1, hS2, hS3⟩ := hSw
                go_simp
                try with_reducible rfl
              (try simp only [Act.put, List.setIfInBounds_toArray, List.set_cons_zero, List.set_cons_succ])
              refine takeL (i := 7) (d := 188) (v := ?_) rfl rfl (by kernel_rfl) (by kernel_rfl) (by kernel_rfl) (by kernel_rfl) (by kernel_rfl) (by kernel_rfl) (fun _ _ _ _ _ h => h) (by rfl) ?_ hC ?_
              rotate_left
              · intro w hSw
                (try dsimp only at hSw)
                obtain ⟨hS0, hS1, hS2, hS3⟩ := hSw
                go_simp
                try with_reducible rfl
              (try simp only [Act.put, List.setIfInBounds_toArray, List.set_cons_zero, List.set_cons_succ])
              refine takeL0 (i := 8) (d := 189) (v := ?_) rfl rfl (by kernel_rfl) (by kernel_rfl) (by kernel_rfl) (by kernel_rfl) (fun _ _ _ _ _ h => h) (by rfl) ?_ (fun _ => hC) ?_
              rotate_left
              · intro w
                go_simp
                try with_reducible rfl
              (try simp only [Act.put, List.setIfInBounds_toArray, List.set_cons_zero, List.set_cons_succ])
              refine takeL0 (i := 9) (d := 190) (v := ?_) rfl rfl (by kernel_rfl) (by kernel_rfl) (by kernel_rfl) (by kernel_rfl) (fun _ _ _ _ _ h => h) (by rfl) ?_ (fun _ => hC) ?_
              rotate_left
              · intro w
                go_simp
                try with_reducible rfl
              (try simp only [Act.put, List.setIfInBounds_toArray, List.set_cons_zero, List.set_cons_succ])
              refine takeL0 (i := 10) (d := 191) (v := ?_) rfl rfl (by kernel_rfl) (by kernel_rfl) (by kernel_rfl) (by kernel_rfl) (fun _ _ _ _ _ h => h) (by rfl) ?_ (fun _ => hC) ?_
              rotate_left
              · intro w
                go_simp
                try with_reducible rfl
              (try simp only [Act.put, List.setIfInBounds_toArray, List.set_cons_zero, List.set_cons_succ])
              refine takeL0 (i := 11) (d := 192) (v := ?_) rfl rfl (by kernel_rfl) (by kernel_rfl) (by kernel_rfl) (by kernel_rfl) (fun _ _ _ _ _ h => h) (by rfl) ?_ (fun _ => hC) ?_
              rotate_left
              · intro w
                go_simp
                try with_reducible rfl
              (try simp only [Act.put, List.setIfInBounds_toArray, List.set_cons_zero, List.set_cons_succ])
              refine takeL0 (i := 12) (d := 193) (v := ?_) rfl rfl (by kernel_rfl) (by kernel_rfl) (by kernel_rfl) (by kernel_rfl) (fun _ _ _ _ _ h => h) (by rfl) ?_ (fun _ => hC) ?_
              rotate_left
              · intro w
                go_simp
                try with_reducible rfl
              (try simp only [Act.put, List.setIfInBounds_toArray, List.set_cons_zero, List.set_cons_succ])
              refine takeL0 (i := 14) (d := 195) (v := ?_) rfl rfl (by kernel_rfl) (by kernel_rfl) (by kernel_rfl) (by kernel_rfl) (fun _ _ _ _ _ h => h) (by rfl) ?_ (fun _ => hC) ?_
              rotate_left
              · intro w
                go_simp
                try with_reducible rfl
              (try simp only [Act.put, List.setIfInBounds_toArray, List.set_cons_zero, List.set_cons_succ])
              refine takeL0 (i := 15) (d := 196) (v := ?_) rfl rfl (by kernel_rfl) (by kernel_rfl) (by kernel_rfl) (by kernel_rfl) (fun _ _ _ _ _ h => h) (by rfl) ?_ (fun _ => hC) ?_
              rotate_left
              · intro w
                go_simp
                try with_reducible rfl
              (try simp only [Act.put, List.setIfInBounds_toArray, List.set_cons_zero, List.set_cons_succ])
              refine takeL0 (i := 16) (d := 197) (v := ?_) rfl rfl (by kernel_rfl) (by kernel_rfl) (by kernel_rfl) (by kernel_rfl) (fun _ _ _ _ _ h => h) (by rfl) ?_ (fun _ => hC) ?_
              rotate_left
              · intro w
                go_simp
                try with_reducible rfl
              (try simp only [Act.put, List.setIfInBounds_toArray, List.set_cons_zero, List.set_cons_succ])
              refine takeL (i := 13) (d := 194) (v := ?_) rfl rfl (by kernel_rfl) (by kernel_rfl) (by kernel_rfl) (by kernel_rfl) (by kernel_rfl) (by kernel_rfl) (fun _ _ _ _ _ h => h) (by rfl) ?_ hC ?_
              rotate_left
              · intro w hSw
                (try dsimp only at hSw)
                obtain ⟨hS0, hS1, hS2, hS3⟩ := hSw
                go_simp
                try with_reducible rfl
              (try simp only [Act.put, List.setIfInBounds_toArray, List.set_cons_zero, List.set_cons_succ])
              refine takeL (i := 17) (d := 198) (v := ?_) rfl rfl (by kernel_rfl) (by kernel_rfl) (by kernel_rfl) (by kernel_rfl) (by kernel_rfl) (by kernel_rfl) (fun _ _ _ _ _ h => h) (by rfl) ?_ hC ?_
              rotate_left
              · intro w hSw
                (try dsimp only at hSw)
                obtain ⟨hS0, hS1, hS2, hS3⟩ := hSw
                go_simp
                try with_reducible rfl
              (try simp only [Act.put, List.setIfInBounds_toArray, List.set_cons_zero, List.set_cons_succ])
              refine takeL0 (i := 18) (d := 199) (v := ?_) rfl rfl (by kernel_rfl) (by kernel_rfl) (by kernel_rfl) (by kernel_rfl) (fun _ _ _ _ _ h => h) (by rfl) ?_ (fun _ => hC) ?_
              rotate_left
              · intro w
                go_simp
                try with_reducible rfl
              (try simp only [Act.put, List.setIfInBounds_toArray, List.set_cons_zero, List.set_cons_succ])
              refine takeL0 (i := 19) (d := 200) (v := ?_) rfl rfl (by kernel_rfl) (by kernel_rfl) (by kernel_rfl) (by kernel_rfl) (fun _ _ _ _ _ h => h) (by rfl) ?_ (fun _ => hC) ?_
              rotate_left
              · intro w
                go_simp
                try with_reducible rfl
              (try simp only [Act.put, List.setIfInBounds_toArray, List.set_cons_zero, List.set_cons_succ])
              refine anyL_done (by kernel_rfl) ?_ _
              refine NoPanic.normal ?_
              clear hC hT q1 q2
              go_wp2_with fail
              go_roundw
              case rel => exact ⟨h + 1, by omega, by go_num, HD⟩
              case measure => simp [intOf]; omega
          · obtain rfl : h = n := by omega
            have HP2 := Lib.hid HQ.out.pw
            clear HQ H16
            have k0 := (four_at (HP2.out.at 0 (HEO.out 0 _ _ HE.out.1))).1
            go_wp2_with fail
            clear k0
            obtain ⟨wo2, rfl⟩ : ∃ wo2 : World, wo2 = wr := ⟨_, rfl⟩
            go_loopw [29, 205] (fun sv i wq => ∃ g : Nat, g ≤ h ∧ i = .int .i64 g ∧ Hid (∃ l, SomeTo g l ∧ PW w wq (PS ++ [pBlk b14 49 #[.int .i64 lo, .int .i64 hi], pRow BA 3 1 h (.slice (some ⟨ga, 0, none⟩) h ca) (intsV (afterC C)), pRow BD 3 1 h (.slice (some ⟨gd, 0, none⟩) h cd) (intsV (needC C)), pBlk b105 26 #[.slice (some ⟨g1, 0, none⟩) h c1, .slice t1 h s1, .slice u1 rs.length x1, .slice m1 N.length y1, .slice (some ⟨g2, 0, none⟩) h c2, .slice t2 h s2, .slice a3 rs2.length q3, .slice m2 N.length y2], pBlk b21 26 #[.slice a0 h z0, .slice a1 h z1, .slice a2 l2 z2, .slice a4 N.length z3], pBlk b22 49 #[.int .i64 lo, .int .i64 hi2], pRow w.heap.size 3 1 l.length sv (intsV l)]))) (fun _ i _ => h - (intOf i).toNat)
            case atStart => exact ⟨0, Nat.zero_le _, rfl, [], SomeTo.nil, (HP2.out.newRow w.heap.size 3 1).same (by simp; rfl)⟩
            case round =>
              obtain ⟨g, hg, rfl, HQ⟩ := hrel
              by_cases hgh : g < h
              · as_aux_lemma =>
                  have hgi : (g : Int) < h := by omega
                  obtain ⟨l, hl, hP⟩ := HQ.out
                  have HL := Lib.hid hl
                  have HP := Lib.hid hP
                  have hfew := hl.few
                  clear hl hP HQ HP2
                  go_wp2_with fail
                  refine (chuteIn_any p2 v2 xs2 2 wr (HP.out.chute 1 (HEO.out 1 _ _ HE.out.2.1) HB.out.2) (by omega) (by omega)).mono ?_
                  rintro e w17 ⟨b, rfl, hc17, ht17⟩
                  have HP7 := Lib.hid (HP.out.turn 1 (HEO.out 1 _ _ HE.out.2.1) hc17 ht17)
                  clear hc17 ht17 HP
                  cases b
                  · go_wp2_with fail
                    go_roundw
                    case rel => exact ⟨g + 1, by omega, by go_num, l, HL.out.skip, HP7.out⟩
                    case measure => simp [intOf]; omega
                  · have HP8 := Lib.hid (HP7.out.alloc (.cells #[.int .i64 g] 3))
                    go_wp2_with (at_builtin; refine HP8.out.list_int (n := l.length) 22 l (g : Int) (HX.out _ 6 _ rfl) HP8.out.size (by omega) rfl _ _ rfl rfl w17.heap.size rfl (cell_one_new _ _ _) ?_)
                    intro g7 cap7 w18 hm _ _
                    rw [HS6.out] at hm
                    have HP9 := Lib.hid hm
                    clear hm
                    go_wp2_with fail
                    go_roundw
                    case rel => exact ⟨g + 1, by omega, by go_num, l ++ [(g : Int)], HL.out.more, by rw [List.length_append]; exact HP9.out⟩
                    case measure => simp [intOf]; omega
              · as_aux_lemma =>
                  obtain rfl : h = g := by omega
                  obtain ⟨l, hl, hP⟩ := HQ.out
                  have HL := Lib.hid hl
                  have HP := Lib.hid hP
                  have hi : IsInts wr wr.heap.size u29 l := nums_of_owns (hP.at 22 (HX.out _ 6 _ rfl)) (fun x hx => by
                    obtain ⟨i, hi, rfl⟩ := List.mem_iff_getElem.1 hx
                    have := hl.house i hi
                    rw [nth_eq hi] at this
                    unfold I64; omega) (by have := hl.few; omega)
                  have hsn : (shortV O l).2 = 8 := short_none HLO.out.fit (fun i hi => by
                    have := hl.house i hi
                    rw [HLO.out.lenR]
                    exact this) hl.incB
                  have HI := Lib.hid hi
                  have HSN := Lib.hid hsn
                  obtain ⟨k0, k1, k2, k3⟩ := four_at (hP.at 20 (HX.out _ 4 _ rfl))
                  clear hl hP HQ hi hsn HP2
                  go_wp2_with fail
                  refine (short_ask O _ _ _ _ _ l wr (HCO.out _ (HP.out.left)) HI.out).mono ?_
                  rintro e w19 ⟨rfl, hb19⟩
                  rw [HSN.out]
                  have HP6 := Lib.hid ((HP.out.below hb19).same (ps' := (PS ++ [pBlk b14 49 #[.int .i64 lo, .int .i64 hi], pRow BA 3 1 h (.slice (some ⟨ga, 0, none⟩) h ca) (intsV (afterC C)), pRow BD 3 1 h (.slice (some ⟨gd, 0, none⟩) h cd) (intsV (needC C)), pBlk b105 26 #[.slice (some ⟨g1, 0, none⟩) h c1, .slice t1 h s1, .slice u1 rs.length x1, .slice m1 N.length y1, .slice (some ⟨g2, 0, none⟩) h c2, .slice t2 h s2, .slice a3 rs2.length q3, .slice m2 N.length y2]]) ++ [pBlk b21 26 #[.slice a0 h z0, .slice a1 h z1, .slice a2 l2 z2, .slice a4 N.length z3], pBlk b22 49 #[.int .i64 lo, .int .i64 hi2], pRow w.heap.size 3 1 l.length u29 (intsV l)]) (by simp))
                  clear hb19 k0 k1 k2 k3 HP
                  go_wp2_with fail
                  go_roundw
                  case rel => exact ⟨c + 1, by omega, by go_num, HP6.out.left⟩
                  case measure => simp [intOf]; omega
    · obtain rfl : c = 2 := by omega
      have HPL := Lib.hid HR.out.low
      clear HR H7
      go_wp2_with fail
      refine (awake_any wr).mono ?_
      rintro e w20 ⟨rfl, hb20⟩
      go_wp2_with fail
      go_ret
      exact ⟨rfl, HPL.out.trans (hb20.mono HPL.out.size)⟩
end Go.Proofs.Ytnhifinfjfpoiaa

namespace Go.Proofs.Ytnhifinfjfpoiaa
open Go.RowKit Go.ChangeShapes Go.WideShapes Go.ChangeAt

theorem ownKnob_none : ownKnob Try.prog.godebug = none := by kernel_rfl
theorem laidOut_yes : laidOutB Try.prog = true := by kernel_rfl

set_option maxRecDepth 100000 in
theorem ratMore_lifted (os : Os) (started : os.Started) (H : Type) (enc : TypeId × Value → H) :
    ReturnsInHanded {} Try.checked os 5 .any (Rows.ratMoreSpec.pre6 enc Try.prog Try.f5 Rows.ratMoreRow.domain false) (Rows.ratMoreSpec.post enc Try.prog Try.f5 false true false false) := by
  refine returnsInHanded_of_change_sized (C := Try.checked) ownKnob_none started (by kernel_rfl) Try.func5
    (ChangeSpec.witness6 (enc := enc) (C := Try.checked) false ⟨#[], #[.slice none 0 0, .slice none 0 0, .int .i64 0], []⟩ 8 (by kernel_rfl) (by kernel_rfl) (by kernel_rfl) (by kernel_rfl)) ?_
  intro W base args ds gs before hval0 hW0 _ hsz0 _
  have hval : ∀ (j : Nat) t v, Try.f5.params[j]? = some t → args[j]? = some v → Value.okWide Try.prog W .any base t v := hval0
  have hsz : (DataW.weightsEach Try.prog (Try.f5.params.toList ++ Rows.ratMoreSpec.plain.varTypes Try.prog) (ds ++ gs)).all (· ≤ reachBytes) = true := hsz0
  have hW := hW0
  obtain ⟨p, q, hA0, hV, rfl, hfz, hnd⟩ := hW
  have hA : DataW.TrodAll enc Try.prog W 0 (fun _ => true) true Try.f5.params.toList args.toList ds p := hA0
  rw [Try.params5] at hA hval hsz
  obtain ⟨v0, v1, v2, d0, d1, d2, p0, p1, p2, rfl, rfl, rfl, h0, h1, h2⟩ := trodAll_three hA
  obtain ⟨rfl, rfl⟩ := trodVars_none hV
  have k0 := h0
  have k1 := h1
  have k2 := h2
  obtain ⟨b0, hb0⟩ := open_bytes (hval 0 _ v0 rfl rfl) h0 (fun m hm => by
    have := List.all_eq_true.1 hsz m (DataW.weights_mem_each (j := 0) rfl rfl m hm)
    simpa using this)
  obtain ⟨b1, hb1⟩ := open_bytes (hval 1 _ v1 rfl rfl) h1 (fun m hm => by
    have := List.all_eq_true.1 hsz m (DataW.weights_mem_each (j := 1) rfl rfl m hm)
    simpa using this)
  obtain ⟨a2, rfl, rfl, rfl, wa2⟩ := open_int Try.underlying3 (hval 2 _ v2 rfl rfl) h2
  refine (ratMore_any v0 v1 b0 b1 a2 W hb0 hb1).mono fun e W' ⟨he, hb⟩ => ?_
  subst he
  have hlt0 : ∀ x ∈ p0, x.block < W.heap.size := fun x hx => hW0.lt x (by simp [hx])
  have s0 := Below.trod laidOut_yes (by kernel_rfl) (of_decide_eq_true (by kernel_rfl)) k0 hb hlt0
  have hlt1 : ∀ x ∈ p1, x.block < W.heap.size := fun x hx => hW0.lt x (by simp [hx])
  have s1 := Below.trod laidOut_yes (by kernel_rfl) (of_decide_eq_true (by kernel_rfl)) k1 hb hlt1
  exact ⟨_, rfl, _, _, _, [], _, _, hW0, trodAll_mk1 (shut_bool Try.underlying4 true), trodAll_mk3 s0 s1 (shut_int Try.underlying3 wa2), rfl, hb.frame _, fun h => by cases h⟩

theorem ratMore_holds : Rows.RatMoreSaid :=
  OpenClaim.holds_of_wide 5 Try.f5 rfl rfl rfl rfl rfl rfl rfl ⟨rfl, rfl, rfl, rfl, rfl⟩ rfl rfl rfl rfl rfl (by kernel_rfl) Try.func5 (by kernel_rfl)
    (of_decide_eq_true (by kernel_rfl)) (by unfold Func.isWrapper; first | (rw [if_pos (by decide +kernel)]; kernel_rfl) | (rw [if_neg (by decide +kernel)]; exact ⟨rfl, rfl⟩))
    (fun os started H enc _ => ratMore_lifted os started H enc)
end Go.Proofs.Ytnhifinfjfpoiaa
