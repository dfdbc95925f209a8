/- RatNamed holds: for whatever bytes and number the law answers true, and what came in reads as it read before. No condition is laid on the arguments beyond the form's own reach. -/
import Derived.Test.YtnhifinfjfpoiaaK11
import Derived.Test.YtnhifinfjfpoiaaK15
import Derived.Test.YtnhifinfjfpoiaaK18
import Derived.Test.YtnhifinfjfpoiaaK13
import Derived.Test.YtnhifinfjfpoiaaK19
import Derived.Test.YtnhifinfjfpoiaaK05
import Derived.Test.YtnhifinfjfpoiaaK08
import Derived.Test.YtnhifinfjfpoiaaRows
import Derived.Test.YtnhifinfjfpoiaaK12
namespace Go.Proofs.Ytnhifinfjfpoiaa
open Go.RowKit
set_option linter.unusedVariables false
set_option linter.unusedSimpArgs false

def CellA (b o : Nat) (x : Value) (W : World) : Prop := W.cell? ⟨b, o, none⟩ = some x ∧ True
/-- A colony and the names of its houses. -/
def nmBase (b5 B : Nat) (r t u nn : Value) (n : Nat) (rooms traps : List Int) (rs : List (Int × Int)) (nb : Nat → Nat) (N : List (List Int)) (Bn gn cn : Nat) (nm : List Int) : List Part :=
  madeBox b5 B r t u nn n rooms traps rs nb N ++ [pRow Bn 3 1 n (.slice (some ⟨gn, 0, none⟩) n cn) (intsV nm)]
/-- A further colony, in its box. -/
def nmOther (b12 ga ca gt ct : Nat) (u nn : Value) (n m A1 A2 A3 A4 : Nat) (nb : Nat → Nat) (R T : List Int) (U : List (Int × Int)) (N : List (List Int)) : List Part :=
  [pBlk b12 26 #[.slice (some ⟨ga, 0, none⟩) n ca, .slice (some ⟨gt, 0, none⟩) n ct, u, nn], pRow A1 3 1 n (.slice (some ⟨ga, 0, none⟩) n ca) (intsV R), pRow A2 3 1 n (.slice (some ⟨gt, 0, none⟩) n ct) (intsV T), pRow A3 63 2 m u (pairsV U), pRowsI A4 n nn nb N]
def Box8 (b12 b5 gr gt h : Nat) (oR oT cR cT : Value) (x y : Int) (W : World) : Prop :=
  W.cell? ⟨b12, 0, none⟩ = some oR ∧ W.cell? ⟨b12, 1, none⟩ = some oT ∧ W.cell? ⟨b5, 0, none⟩ = some cR ∧ W.cell? ⟨b5, 1, none⟩ = some cT ∧ W.cell? ⟨gr, h, none⟩ = some (.int .i64 x) ∧ W.cell? ⟨gt, h, none⟩ = some (.int .i64 y)
def Box12n (b12 b5 go gc nb i h : Nat) (oN cN oi ci : Value) (x : Int) (W : World) : Prop :=
  W.cell? ⟨b12, 3, none⟩ = some oN ∧ W.cell? ⟨go, i, none⟩ = some oi ∧ W.cell? ⟨b5, 3, none⟩ = some cN ∧ W.cell? ⟨gc, i, none⟩ = some ci ∧ W.cell? ⟨nb, h, none⟩ = some (.int .i64 x)
def Box18 (b12 b17 gn a b : Nat) (oU : Value) (x y : Int) (W : World) : Prop :=
  W.cell? ⟨b12, 2, none⟩ = some oU ∧ W.cell? ⟨b17, 1, none⟩ = some (.int .i64 b) ∧ W.cell? ⟨gn, b, none⟩ = some (.int .i64 y) ∧ W.cell? ⟨b17, 0, none⟩ = some (.int .i64 a) ∧ W.cell? ⟨gn, a, none⟩ = some (.int .i64 x)
def Box33 (bs os bt ot bx ox by_ oy : Nat) (lo hi x : Int) (W : World) : Prop :=
  W.cell? ⟨bs, os, none⟩ = some (.int .i64 lo) ∧ W.cell? ⟨bs, os + 1, none⟩ = some (.int .i64 hi) ∧ W.cell? ⟨bt, ot, none⟩ = some (.int .i64 lo) ∧ W.cell? ⟨bt, ot + 1, none⟩ = some (.int .i64 hi) ∧ W.cell? ⟨bx, ox, none⟩ = some (.int .i64 x) ∧ W.cell? ⟨by_, oy, none⟩ = some (.int .i64 x)
theorem row_cell {W : World} {B n g c j : Nat} {l : List Int} (h : (pRow B 3 1 n (.slice (some ⟨g, 0, none⟩) n c) (intsV l)).told W) (hl : l.length = n) (hj : j < n) : W.cell? ⟨g, j, none⟩ = some (.int .i64 (nth l j)) := by
  have := World.ownsRow.cellAt h j (by omega)
  rw [this, nth_eq (by omega)]
  simp [intsV]
theorem rows_at2 {W : World} {B n m q : Nat} {a : Option Addr} {nb : Nat → Nat} {rows : List (List Int)} (hm : rows.length = m) (h : (pRowsI B n (.slice a m q) nb rows).told W) {i : Nat} (hi : i < rows.length) :
    ∃ b c, a = some ⟨b, 0, none⟩ ∧ n ≤ c ∧ W.cell? ⟨b, i, none⟩ = some (.slice (some ⟨nb i, 0, none⟩) n c) ∧ IntBlk W (nb i) n (nth (nthR rows i)) := by
  subst hm
  exact rows_at h hi
/-- What the law keeps in mind of memory behind the answers about both. -/
structure NdAt (w : World) (ps : List Part) (sv tv xv yv : Value) (S T : List (Int × Int)) (X Y : List Int) (W : World) : Prop where
  pw : PW w W ps
  s : IsPairs W W.heap.size sv S
  t : IsPairs W W.heap.size tv T
  x : IsInts W W.heap.size xv X
  y : IsInts W W.heap.size yv Y
theorem NdAt.drew {w W : World} {ps : List Part} {sv tv xv yv : Value} {S T : List (Int × Int)} {X Y : List Int} (h : NdAt w ps sv tv xv yv S T X Y W) : NdAt w ps sv tv xv yv S T X Y W.drew :=
  have hb := (Below.refl W.heap.size W).drew
  ⟨h.pw.below hb, (h.s.below hb (Nat.le_refl _)).mono hb.size, (h.t.below hb (Nat.le_refl _)).mono hb.size, (h.x.below hb (Nat.le_refl _)).mono hb.size, (h.y.below hb (Nat.le_refl _)).mono hb.size⟩
theorem reach_ok {c : Col} (hk : checkC c = 0) {h R : Nat} (hh : h < c.rooms.length) (hR : R < 4) : reachErr c (h : Int) (R : Int) = 0 := by
  unfold reachErr
  rw [if_pos hk, if_pos (inB_of ⟨by omega, by omega⟩), if_pos (inB_of ⟨by omega, by omega⟩)]
theorem bait_ok {c : Col} (hk : checkC c = 0) (hf : fitErr c = 0) {R : Nat} (hR : R < 4) : baitErr c (R : Int) = 0 := by
  unfold baitErr
  rw [if_pos hk, if_pos (inB_of ⟨by omega, by omega⟩), hf]
theorem NdAt.below {w W W' : World} {ps : List Part} {sv tv xv yv : Value} {S T : List (Int × Int)} {X Y : List Int} (h : NdAt w ps sv tv xv yv S T X Y W) (hb : Below W.heap.size W W') : NdAt w ps sv tv xv yv S T X Y W' :=
  ⟨h.pw.below hb, (h.s.below hb (Nat.le_refl _)).mono hb.size, (h.t.below hb (Nat.le_refl _)).mono hb.size, (h.x.below hb (Nat.le_refl _)).mono hb.size, (h.y.below hb (Nat.le_refl _)).mono hb.size⟩

/-- What the law asks of a colony and of the same one by other names. -/
structure NamedLaw (n : Nat) (nm : List Int) (C O : Col) : Prop where
  fit : fitErr O = 0
  rats : ratsC O = ratsC C
  startsC : (Go.Proofs.Ytnhifinfjfpoiaa.startsC C).length = C.rooms.length
  startsO : (Go.Proofs.Ytnhifinfjfpoiaa.startsC O).length = C.rooms.length
  needC : (Go.Proofs.Ytnhifinfjfpoiaa.needC C).length = C.rooms.length
  needO : (Go.Proofs.Ytnhifinfjfpoiaa.needC O).length = C.rooms.length
  start : ∀ x, x < n → nthP (Go.Proofs.Ytnhifinfjfpoiaa.startsC O) (nth nm x).toNat = nthP (Go.Proofs.Ytnhifinfjfpoiaa.startsC C) x
  need : ∀ x, x < n → nth (Go.Proofs.Ytnhifinfjfpoiaa.needC O) (nth nm x).toNat = nth (Go.Proofs.Ytnhifinfjfpoiaa.needC C) x
  reach : ∀ x R, x < n → (members (reachN O (nth nm x).toNat R)).length = (members (reachN C x R)).length
  baits : ∀ R, (baitsC O R).length = (baitsC C R).length
  apart : ∀ R, (apartC O R).length = (apartC C R).length
theorem named_law {rooms traps : List Int} {rs : List (Int × Int)} {N : List (List Int)} {nm : List Int} (I : PermL rooms.length nm) (hk : fitErr ⟨rooms, traps, rs, N⟩ = 0) (hck : checkC ⟨rooms, traps, rs, N⟩ = 0) :
    NamedLaw rooms.length nm ⟨rooms, traps, rs, N⟩ (namedC rooms traps rs N nm) := by
  obtain ⟨p, r, J, hp⟩ := named_ren I hck
  have lo := J.lenO
  refine ⟨J.fit hk, J.rats hk, startsTo_len _ _, (startsTo_len _ _).trans lo, needTo_len _ _, (needTo_len _ _).trans lo, fun x hx => ?_, fun x hx => ?_, fun x R hx => ?_, J.baits hk, J.aparts hk⟩
  · rw [← hp x hx, starts_nth _ (by rw [lo]; exact J.pn x hx), starts_nth _ hx]; exact J.start hk hx
  · rw [← hp x hx]; exact J.need hk hx
  · rw [← hp x hx]; exact J.reach_len hx R
theorem named_check {rooms traps : List Int} {rs : List (Int × Int)} {N : List (List Int)} {nm : List Int} (I : PermL rooms.length nm) (hck : checkC ⟨rooms, traps, rs, N⟩ = 0) : checkC (namedC rooms traps rs N nm) = 0 := by
  obtain ⟨p, r, J, hp⟩ := named_ren I hck
  exact check_of_ok J.okO
/-- A run stored into a row of runs. -/
theorem store_run {W : World} {A n g cap k : Nat} {xs : List Value} (h : (pRow A 63 2 n (.slice (some ⟨g, 0, none⟩) n cap) xs).told W) (hl : xs.length = n * 2) (hk : k < n) (x y : Int) :
    (Instr.storeAt 63 (.pointer (some ⟨g, k * 2, none⟩)) (.agg #[.int .i64 x, .int .i64 y])).run Try.prog W = .ok () ((W.setCell ⟨g, k * 2, none⟩ (.int .i64 x)).setCell ⟨g, k * 2 + 1, none⟩ (.int .i64 y)) := by
  have h0 : W.ownsRow A 63 2 (.slice (some ⟨g, 0, none⟩) n cap) n xs := h
  have h1 := (h0.stored (k * 2) (.int .i64 x)).1
  have c0 := h0.cellAt (k * 2) (by omega)
  have c1 := h1.cellAt (k * 2 + 1) (by omega)
  have f0 := h0.frozenAt (k * 2)
  have f1 := h1.frozenAt (k * 2 + 1)
  rw [List.getElem?_eq_getElem (by omega)] at c0
  rw [List.getElem?_eq_getElem (by simp; omega)] at c1
  generalize xs[k * 2]'_ = z0 at c0
  generalize (xs.set (k * 2) (.int .i64 x))[k * 2 + 1]'_ = z1 at c1
  clear h h0 h1 hl
  simp (maxSteps := 3000000) [go_sem, c0, c1, f0, f1]

set_option maxRecDepth 100000 in
set_option maxHeartbeats 8000000 in
theorem ratNamed_any (v1 v2 : Value) (xs1 xs2 : List Int) (far : Int) (w : World) (h1 : IsBytes w w.heap.size v1 xs1) (h2 : IsBytes w w.heap.size v2 xs2) :
    Calls Try.prog 9 #[v1, v2, .int .i64 far] w fun e w' => e = .returned (.bool true) ∧ Below w.heap.size w w' := by
  have H2B := Lib.hid h2
  obtain ⟨av2, cv2, rfl, _⟩ := h2.open
  clear h2
  have HB := Lib.hid h1
  clear h1
  go_enter Try.func9, Try.ntmps9
  go_wp2_with fail
  refine (fill_any v1 xs1 w HB.out).mono ?_
  rintro e w1 ⟨rfl, hc1, hb1, hz1⟩
  have HP1 := Lib.hid ((PW.start w).fill hc1 hb1)
  obtain ⟨p1, hp1⟩ : ∃ p1, w.heap.size = p1 := ⟨_, rfl⟩
  have hP1 := HP1.out
  rw [hp1] at hP1
  have HP1 := Lib.hid hP1
  rw [hp1]
  clear hc1 hb1 hz1 hP1 hp1
  go_wp2_with fail
  refine (made_any p1 v1 xs1 5 4 w1 (HP1.out.chute 0 rfl HB.out) (by omega) (by omega)).mono ?_
  rintro e w2 ⟨r, t, u, nv, cv, lv, fv, rooms, traps, rs, k, N, T, M, L, left, rfl, hI, hcol, hT, hL, hF, hc2, ht2, nbN, nbT, bL, Lf, rfl, hLf, hsep⟩
  have HI := Lib.hid hI
  have HP2 := Lib.hid (((HP1.out.made 0 rfl hc2 ht2 hsep).newBlk 26 #[r, t, u, nv]).newBlk 55 #[cv, .slice (some ⟨bL, 0, none⟩) rooms.length rooms.length])
  have hn0 : 0 < rooms.length := hI.made.many.1
  have hn5 : (rooms.length : Int) ≤ 5 := hI.few
  obtain ⟨ar, qr, rfl⟩ := owns_slice (hsep.at 0 rfl)
  obtain ⟨at_, qt, rfl⟩ := owns_slice (hsep.at 1 rfl)
  obtain ⟨au, qu, rfl⟩ := owns_slice (hsep.at 2 rfl)
  obtain ⟨⟨fsN, hoN, qx1⟩, qx2⟩ : (pRows w1.heap.size rooms.length nv nbN N).told w2 := hsep.at 3 rfl
  obtain ⟨⟨fsT, hoT, qx3⟩, qx4⟩ : (pRows w1.heap.size rooms.length cv nbT T).told w2 := hsep.at 4 rfl
  clear qx1 qx2 qx3 qx4
  obtain ⟨an, qn, rfl⟩ := owns_slice hoN
  obtain ⟨ac, qc, rfl⟩ := owns_slice hoT
  obtain ⟨al, ql, rfl⟩ := owns_slice (hsep.at 6 rfl)
  have HC2 := Lib.hid hcol
  clear hI hcol hT hL hF hc2 ht2 hLf hsep hoN hoT
  go_wp2_with fail
  obtain ⟨W3, hW3⟩ : ∃ W3, (w2.alloc (.cells #[.slice ar rooms.length qr, .slice at_ rooms.length qt, .slice au rs.length qu, .slice an N.length qn] 26)).alloc (.cells #[.slice ac T.length qc, .slice (some ⟨bL, 0, none⟩) rooms.length rooms.length] 55) = W3 := ⟨_, rfl⟩
  obtain ⟨b5, hb5⟩ : ∃ b5, w2.heap.size = b5 := ⟨_, rfl⟩
  have hP2 := HP2.out
  have hcol3 : ColAt W3 W3.heap.size (.slice ar rooms.length qr) (.slice at_ rooms.length qt) (.slice au rs.length qu) (.slice an N.length qn) ⟨rooms, traps, rs, N⟩ := by
    rw [← hW3]
    exact (HC2.out.below (((Below.refl _ _).alloc (Nat.le_refl _) _).alloc (by simp) _) (Nat.le_refl _)).mono (by simp; omega)
  rw [hW3, hb5] at hP2
  rw [hW3]
  have HP3 := Lib.hid hP2
  have HC3 := Lib.hid hcol3
  have hb6 : ∃ b6, w2.heap.size + 1 = b6 := ⟨_, rfl⟩
  obtain ⟨b6, hb6⟩ := hb6
  rw [hb5] at hb6
  rw [hb5]
  (try rw [hb6])
  clear hW3 hP2 hcol3 HC2 HP2 hb5
  obtain ⟨gr, cr, er, hcr, _⟩ := int_row_cells (HP3.out.at 1 rfl) rfl hn0
  cases er
  obtain ⟨gt, ct, er, hct, _⟩ := int_row_cells (HP3.out.at 2 rfl) HI.out.made.trapN hn0
  cases er
  have HFE := Lib.hid (HI.out.fitErr (by omega))
  have HCK := Lib.hid (HI.out.check (by omega))
  have HTN := Lib.hid HI.out.made.trapN
  have HNR : Hid (∀ j, j < N.length → (nthR N j).length = rooms.length) := fun j hj => HI.out.caught.rowN j (by rw [← HI.out.caught.lenN]; exact hj)
  have hNl : N.length ≤ 4 := by have := HI.out.caught.lenN; have := HI.out.nights; omega
  have hrl : rs.length ≤ 12 := (okCol_of HCK.out).runs
  have HOK := Lib.hid (show OwnOk rooms.length ⟨rooms, traps, rs, N⟩ from ⟨hn0, rfl, HI.out.made.trapN, by have := HI.out.made.few; show rs.length ≤ 100; omega, by show N.length ≤ 100; omega, by have := HI.out.made.many.2; omega, HNR.out⟩)
  have HCOL : Hid (∀ W ps, PW w W ps → ps[1]? = some (pRow w1.heap.size 3 1 rooms.length (.slice (some ⟨gr, 0, none⟩) rooms.length qr) (intsV rooms)) → ps[2]? = some (pRow w1.heap.size 3 1 rooms.length (.slice (some ⟨gt, 0, none⟩) rooms.length qt) (intsV traps)) → ps[3]? = some (pRow w1.heap.size 63 2 rs.length (.slice au rs.length qu) (pairsV rs)) → ps[4]? = some (pRows w1.heap.size rooms.length (.slice an N.length qn) nbN N) → ColAt W W.heap.size (.slice (some ⟨gr, 0, none⟩) rooms.length qr) (.slice (some ⟨gt, 0, none⟩) rooms.length qt) (.slice au rs.length qu) (.slice an N.length qn) ⟨rooms, traps, rs, N⟩) := fun W ps H e2 e3 e4 e5 => made_read HCK.out rfl (H.at 1 e2) (H.at 2 e3) (H.at 3 e4) (H.at 4 e5)
  have HP := Lib.hid (HP3.out.pick (ps' := madeBox b5 w1.heap.size (.slice (some ⟨gr, 0, none⟩) rooms.length qr) (.slice (some ⟨gt, 0, none⟩) rooms.length qt) (.slice au rs.length qu) (.slice an N.length qn) rooms.length rooms traps rs nbN N) [8, 1, 2, 3, 4] (by decide) rfl)
  clear HP3 HP1 HI HC3 hb6
  refine (wrap_any far 4 W3 (by omega) (by omega)).mono ?_
  rintro e w4 ⟨x, rfl, x0, x1, rfl⟩
  obtain ⟨R, rfl⟩ : ∃ R : Nat, x = R := ⟨x.toNat, by omega⟩
  have hR : R < 4 := by omega
  clear x0 x1
  go_upto_region 3 with (fail)
  go_cut [11] (fun s11 wx => ∃ gn cn, s11 = .slice (some ⟨gn, 0, none⟩) rooms.length cn ∧ Hid (∃ Bn nm, PermL rooms.length nm ∧ PW w wx (nmBase b5 w1.heap.size (.slice (some ⟨gr, 0, none⟩) rooms.length qr) (.slice (some ⟨gt, 0, none⟩) rooms.length qt) (.slice au rs.length qu) (.slice an N.length qn) rooms.length rooms traps rs nbN N Bn gn cn nm)))
  case first =>
    have HD := Lib.hid HP.out.drew
    have hC : CellA b5 0 (.slice (some ⟨gr, 0, none⟩) rooms.length qr) W3.drew := ⟨(four_at (HD.out.at 0 rfl)).1, trivial⟩
    refine wp_region_noPanic ?_
    refine anyL_start (S := Till [] (CellA b5 0 (.slice (some ⟨gr, 0, none⟩) rooms.length qr))) (by kernel_rfl) (fun _ => hC) (fun hT => ?_)
    refine takeL0 (i := 0) (d := 49) (v := ?_) rfl rfl (by kernel_rfl) (by kernel_rfl) (by kernel_rfl) (by kernel_rfl) (fun _ _ _ _ _ h => h) (by rfl) ?_ (fun _ => hC) ?_
    rotate_left
    · intro w
      go_simp
      try with_reducible rfl
    (try simp only [Act.put, List.setIfInBounds_toArray, List.set_cons_zero, List.set_cons_succ])
    refine takeL0 (i := 2) (d := 51) (v := ?_) rfl rfl (by kernel_rfl) (by kernel_rfl) (by kernel_rfl) (by kernel_rfl) (fun _ _ _ _ _ h => h) (by rfl) ?_ (fun _ => hC) ?_
    rotate_left
    · intro w
      go_simp
      try with_reducible rfl
    (try simp only [Act.put, List.setIfInBounds_toArray, List.set_cons_zero, List.set_cons_succ])
    refine takeL (i := 3) (d := 52) (v := ?_) rfl rfl (by kernel_rfl) (by kernel_rfl) (by kernel_rfl) (by kernel_rfl) (by kernel_rfl) (by kernel_rfl) (fun _ _ _ _ _ h => h) (by rfl) ?_ hC ?_
    rotate_left
    · intro w hSw
      (try dsimp only at hSw)
      obtain ⟨hS0, hS1⟩ := hSw
      go_simp
      try with_reducible rfl
    (try simp only [Act.put, List.setIfInBounds_toArray, List.set_cons_zero, List.set_cons_succ])
    refine takeL0 (i := 4) (d := 53) (v := ?_) rfl rfl (by kernel_rfl) (by kernel_rfl) (by kernel_rfl) (by kernel_rfl) (fun _ _ _ _ _ h => h) (by rfl) ?_ (fun _ => hC) ?_
    rotate_left
    · intro w
      go_simp
      try with_reducible rfl
    (try simp only [Act.put, List.setIfInBounds_toArray, List.set_cons_zero, List.set_cons_succ])
    refine nextW (i := 1) rfl (by kernel_rfl) (by rfl) (fun K hK => ?_)
    go_simp
    refine (fill_any (.slice av2 xs2.length cv2) xs2 W3.drew ⟨(H2B.out.1.below HD.out.low (Nat.le_refl _)).mono HD.out.size, H2B.out.2⟩).mono ?_
    rintro e w6 ⟨rfl, hc6, hb6, hz6⟩
    have HF := Lib.hid (HD.out.fill hc6 hb6)
    obtain ⟨p6, hp6⟩ : ∃ p6, W3.drew.heap.size = p6 := ⟨_, rfl⟩
    rw [hp6] at HF ⊢
    clear hC hc6 hb6 hz6 hp6
    have hC : CellA b5 0 (.slice (some ⟨gr, 0, none⟩) rooms.length qr) w6 := ⟨(four_at (HF.out.at 0 rfl)).1, trivial⟩
    go_simp
    refine hK.out _ _ (fun _ => hC) ?_
    clear hK K
    (try simp only [Act.put, List.setIfInBounds_toArray, List.set_cons_zero, List.set_cons_succ])
    refine nextW (i := 5) rfl (by kernel_rfl) (by rfl) (fun K hK => ?_)
    go_simp
    refine (shuffled_any p6 (.slice av2 xs2.length cv2) xs2 rooms.length w6 (HF.out.chute 5 rfl H2B.out) (by omega)).mono ?_
    rintro e w7 ⟨u7, nm, rfl, hp, hm⟩
    obtain ⟨gn, cn, er, hcn, _⟩ := int_row_cells (hm.at 0 rfl) hp.len hn0
    cases er
    have HG := Lib.hid (HF.out.made 5 rfl hm.chute hm.turned hm.sep)
    have HNP := Lib.hid hp
    clear hC hm hp
    have hC : CellA b5 0 (.slice (some ⟨gr, 0, none⟩) rooms.length qr) w7 := ⟨(four_at (HG.out.at 0 rfl)).1, trivial⟩
    go_simp
    refine hK.out _ _ (fun _ => hC) ?_
    clear hK K
    (try simp only [Act.put, List.setIfInBounds_toArray, List.set_cons_zero, List.set_cons_succ])
    refine takeL0 (i := 6) (d := 11) (v := ?_) rfl rfl (by kernel_rfl) (by kernel_rfl) (by kernel_rfl) (by kernel_rfl) (fun _ _ _ _ _ h => h) (by rfl) ?_ (fun _ => hC) ?_
    rotate_left
    · intro w
      go_simp
      try with_reducible rfl
    (try simp only [Act.put, List.setIfInBounds_toArray, List.set_cons_zero, List.set_cons_succ])
    refine anyL_done (by kernel_rfl) ?_ _
    refine NoPanic.normal ?_
    go_wp2_with fail
    go_meet
    exact ⟨gn, cn, rfl, w6.heap.size, nm, HNP.out, HG.out.pick [0, 1, 2, 3, 4, 6] (by decide) rfl⟩
  case rest =>
  obtain ⟨gn, cn, rfl, HQ⟩ := hcut
  obtain ⟨Bn, nm, hPm, hPW⟩ := HQ.out
  have HPM := Lib.hid hPm
  have HP4 := Lib.hid hPW
  clear hPm hPW HQ HP H2B
  obtain ⟨k0, k1, k2, k3⟩ := four_at (HP4.out.at 0 rfl)
  go_wp2_with fail
  refine (ownSep_any rooms.length ⟨rooms, traps, rs, N⟩ _ _ _ _ wc (HCOL.out _ _ HP4.out rfl rfl rfl rfl) HOK.out).mono ?_
  rintro e wA ⟨ra, ta, ua, na, A1, A2, A3, A4, nba, rfl, hA1, hA2, hA3, hA4, hsA, hbA⟩
  obtain ⟨ga, ca, rfl, hca, _⟩ := int_row_cells (hsA.at 0 rfl) rfl hn0
  obtain ⟨gto, cto, rfl, hcto, _⟩ := int_row_cells (hsA.at 1 rfl) HTN.out hn0
  obtain ⟨ua1, ua2, rfl⟩ := owns_slice (hsA.at 2 rfl)
  obtain ⟨⟨⟨fsa, hoa, qx1⟩, qx2⟩, qx3⟩ : (pRowsI A4 rooms.length na nba N).told wA := hsA.at 3 rfl
  clear qx1 qx2 qx3
  obtain ⟨na1, na2, rfl⟩ := owns_slice hoa
  have HA := Lib.hid ((HP4.out.both hbA hsA).newBlk 26 #[.slice (some ⟨ga, 0, none⟩) rooms.length ca, .slice (some ⟨gto, 0, none⟩) rooms.length cto, .slice ua1 rs.length ua2, .slice na1 N.length na2])
  clear hsA hbA hoa k0 k1 k2 k3 hA1 hA2 hA3 hA4 HP4 HOK
  go_wp2_with fail
  obtain ⟨WA, hWA⟩ : ∃ WA, wA.alloc (.cells #[.slice (some ⟨ga, 0, none⟩) rooms.length ca, .slice (some ⟨gto, 0, none⟩) rooms.length cto, .slice ua1 rs.length ua2, .slice na1 N.length na2] 26) = WA := ⟨_, rfl⟩
  obtain ⟨b12, hb12⟩ : ∃ b12, wA.heap.size = b12 := ⟨_, rfl⟩
  have hA := HA.out
  rw [hWA, hb12] at hA
  rw [hWA, hb12]
  obtain ⟨BS, hBS⟩ : ∃ BS, nmBase b5 w1.heap.size (.slice (some ⟨gr, 0, none⟩) rooms.length qr) (.slice (some ⟨gt, 0, none⟩) rooms.length qt) (.slice au rs.length qu) (.slice an N.length qn) rooms.length rooms traps rs nbN N Bn gn cn nm = BS := ⟨_, rfl⟩
  have HBS := Lib.hid hBS
  have H0 : Hid (PW w WA (BS ++ nmOther b12 ga ca gto cto (.slice ua1 rs.length ua2) (.slice na1 N.length na2) rooms.length rs.length A1 A2 A3 A4 nba (putL rooms rooms nm 0) (putL traps traps nm 0) (runsUp rs nm 0) (nightsUp N nm 0 0))) := by
    rw [← HBS.out, nightsUp_zero, runsUp_zero]
    exact hA.pick [0, 1, 2, 3, 4, 5, 10, 6, 7, 8, 9] (by decide) rfl
  clear hWA hb12 hA HA hBS
  go_loopw [59] (fun i wr => ∃ h : Nat, h ≤ rooms.length ∧ i = .int .i64 h ∧ Hid (PW w wr (BS ++ nmOther b12 ga ca gto cto (.slice ua1 rs.length ua2) (.slice na1 N.length na2) rooms.length rs.length A1 A2 A3 A4 nba (putL rooms rooms nm h) (putL traps traps nm h) (runsUp rs nm 0) (nightsUp N nm h 0)))) (fun i _ => rooms.length - (intOf i).toNat)
  case atStart => exact ⟨0, Nat.zero_le _, rfl, H0⟩
  case round =>
    obtain ⟨h, hh, rfl, HR⟩ := hrel
    by_cases hlt : h < rooms.length
    · as_aux_lemma =>
        have hhi : (h : Int) < rooms.length := by omega
        have hR0 := HR.out
        rw [← HBS.out] at hR0
        have hnc := row_cell (hR0.at 5 rfl) HPM.out.len hlt
        obtain ⟨m, hm⟩ : ∃ m : Nat, nth nm h = m := ⟨(nth nm h).toNat, by have := HPM.out.lt h hlt; omega⟩
        have hmn : m < rooms.length := by have := HPM.out.lt h hlt; omega
        have hmi : (m : Int) < rooms.length := by omega
        have hmt : (nth nm h).toNat = m := by omega
        rw [hm] at hnc
        have HMT := Lib.hid (And.intro hm hmt)
        clear hm hmt hR0 H0
        go_upto_region 8 with (fail)
        clear hnc
        go_cut [] (fun wx => Hid (PW w wx (BS ++ nmOther b12 ga ca gto cto (.slice ua1 rs.length ua2) (.slice na1 N.length na2) rooms.length rs.length A1 A2 A3 A4 nba (putL rooms rooms nm (h + 1)) (putL traps traps nm (h + 1)) (runsUp rs nm 0) (nightsUp N nm h 0))))
        case first =>
          have hR0 := HR.out.drew
          rw [← HBS.out] at hR0
          have HD := Lib.hid hR0
          obtain ⟨x, hx⟩ : ∃ x, nth rooms h = x := ⟨_, rfl⟩
          obtain ⟨y, hy⟩ : ∃ y, nth traps h = y := ⟨_, rfl⟩
          have hC : Box8 b12 b5 gr gt h (.slice (some ⟨ga, 0, none⟩) rooms.length ca) (.slice (some ⟨gto, 0, none⟩) rooms.length cto) (.slice (some ⟨gr, 0, none⟩) rooms.length qr) (.slice (some ⟨gt, 0, none⟩) rooms.length qt) x y wr.drew := by
            refine ⟨(four_at (hR0.at 6 rfl)).1, (four_at (hR0.at 6 rfl)).2.1, (four_at (hR0.at 0 rfl)).1, (four_at (hR0.at 0 rfl)).2.1, ?_, ?_⟩
            · rw [← hx]; exact row_cell (hR0.at 1 rfl) rfl hlt
            · rw [← hy]; exact row_cell (hR0.at 2 rfl) HTN.out hlt
          have HXY := Lib.hid (And.intro hx hy)
          clear hR0 hx hy HR
          refine wp_region_noPanic ?_
          refine anyL_start (S := Till [19] (Box8 b12 b5 gr gt h (.slice (some ⟨ga, 0, none⟩) rooms.length ca) (.slice (some ⟨gto, 0, none⟩) rooms.length cto) (.slice (some ⟨gr, 0, none⟩) rooms.length qr) (.slice (some ⟨gt, 0, none⟩) rooms.length qt) x y)) (by kernel_rfl) (fun _ => hC) (fun hT => ?_)
          clear hT
          obtain ⟨wd, hwd⟩ : ∃ wd, wr.drew = wd := ⟨_, rfl⟩
          rw [hwd] at HD hC ⊢
          clear hwd
          refine takeL0 (i := 0) (d := 64) (v := ?_) rfl rfl (by kernel_rfl) (by kernel_rfl) (by kernel_rfl) (by kernel_rfl) (fun _ _ _ _ _ h => h) (by rfl) ?_ (fun _ => hC) ?_
          rotate_left
          · intro w
            go_simp
            try with_reducible rfl
          (try simp only [Act.put, List.setIfInBounds_toArray, List.set_cons_zero, List.set_cons_succ])
          refine takeL0 (i := 2) (d := 66) (v := ?_) rfl rfl (by kernel_rfl) (by kernel_rfl) (by kernel_rfl) (by kernel_rfl) (fun _ _ _ _ _ h => h) (by rfl) ?_ (fun _ => hC) ?_
          rotate_left
          · intro w
            go_simp
            try with_reducible rfl
          (try simp only [Act.put, List.setIfInBounds_toArray, List.set_cons_zero, List.set_cons_succ])
          refine takeL0 (i := 3) (d := 67) (v := ?_) rfl rfl (by kernel_rfl) (by kernel_rfl) (by kernel_rfl) (by kernel_rfl) (fun _ _ _ _ _ h => h) (by rfl) ?_ (fun _ => hC) ?_
          rotate_left
          · intro w
            go_simp
            try with_reducible rfl
          (try simp only [Act.put, List.setIfInBounds_toArray, List.set_cons_zero, List.set_cons_succ])
          refine takeL0 (i := 5) (d := 69) (v := ?_) rfl rfl (by kernel_rfl) (by kernel_rfl) (by kernel_rfl) (by kernel_rfl) (fun _ _ _ _ _ h => h) (by rfl) ?_ (fun _ => hC) ?_
          rotate_left
          · intro w
            go_simp
            try with_reducible rfl
          (try simp only [Act.put, List.setIfInBounds_toArray, List.set_cons_zero, List.set_cons_succ])
          refine takeL0 (i := 6) (d := 70) (v := ?_) rfl rfl (by kernel_rfl) (by kernel_rfl) (by kernel_rfl) (by kernel_rfl) (fun _ _ _ _ _ h => h) (by rfl) ?_ (fun _ => hC) ?_
          rotate_left
          · intro w
            go_simp
            try with_reducible rfl
          (try simp only [Act.put, List.setIfInBounds_toArray, List.set_cons_zero, List.set_cons_succ])
          refine takeL0 (i := 8) (d := 72) (v := ?_) rfl rfl (by kernel_rfl) (by kernel_rfl) (by kernel_rfl) (by kernel_rfl) (fun _ _ _ _ _ h => h) (by rfl) ?_ (fun _ => hC) ?_
          rotate_left
          · intro w
            go_simp
            try with_reducible rfl
          (try simp only [Act.put, List.setIfInBounds_toArray, List.set_cons_zero, List.set_cons_succ])
          refine takeL0 (i := 11) (d := 75) (v := ?_) rfl rfl (by kernel_rfl) (by kernel_rfl) (by kernel_rfl) (by kernel_rfl) (fun _ _ _ _ _ h => h) (by rfl) ?_ (fun _ => hC) ?_
          rotate_left
          · intro w
            go_simp
            try with_reducible rfl
          (try simp only [Act.put, List.setIfInBounds_toArray, List.set_cons_zero, List.set_cons_succ])
          refine takeL0 (i := 13) (d := 77) (v := ?_) rfl rfl (by kernel_rfl) (by kernel_rfl) (by kernel_rfl) (by kernel_rfl) (fun _ _ _ _ _ h => h) (by rfl) ?_ (fun _ => hC) ?_
          rotate_left
          · intro w
            go_simp
            try with_reducible rfl
          (try simp only [Act.put, List.setIfInBounds_toArray, List.set_cons_zero, List.set_cons_succ])
          refine takeL (i := 1) (d := 65) (v := ?_) rfl rfl (by kernel_rfl) (by kernel_rfl) (by kernel_rfl) (by kernel_rfl) (by kernel_rfl) (by kernel_rfl) (fun _ _ _ _ _ h => h) (by rfl) ?_ hC ?_
          rotate_left
          · intro w hSw
            (try dsimp only at hSw)
            obtain ⟨hS0, hS1, hS2, hS3, hS4, hS5⟩ := hSw
            go_simp
            try with_reducible rfl
          (try simp only [Act.put, List.setIfInBounds_toArray, List.set_cons_zero, List.set_cons_succ])
          refine takeL (i := 4) (d := 68) (v := ?_) rfl rfl (by kernel_rfl) (by kernel_rfl) (by kernel_rfl) (by kernel_rfl) (by kernel_rfl) (by kernel_rfl) (fun _ _ _ _ _ h => h) (by rfl) ?_ hC ?_
          rotate_left
          · intro w hSw
            (try dsimp only at hSw)
            obtain ⟨hS0, hS1, hS2, hS3, hS4, hS5⟩ := hSw
            go_simp
            try with_reducible rfl
          (try simp only [Act.put, List.setIfInBounds_toArray, List.set_cons_zero, List.set_cons_succ])
          refine takeL (i := 7) (d := 71) (v := ?_) rfl rfl (by kernel_rfl) (by kernel_rfl) (by kernel_rfl) (by kernel_rfl) (by kernel_rfl) (by kernel_rfl) (fun _ _ _ _ _ h => h) (by rfl) ?_ hC ?_
          rotate_left
          · intro w hSw
            (try dsimp only at hSw)
            obtain ⟨hS0, hS1, hS2, hS3, hS4, hS5⟩ := hSw
            go_simp
            try with_reducible rfl
          (try simp only [Act.put, List.setIfInBounds_toArray, List.set_cons_zero, List.set_cons_succ])
          refine takeL0 (i := 9) (d := 73) (v := ?_) rfl rfl (by kernel_rfl) (by kernel_rfl) (by kernel_rfl) (by kernel_rfl) (fun _ _ _ _ _ h => h) (by rfl) ?_ (fun _ => hC) ?_
          rotate_left
          · intro w
            go_simp
            try with_reducible rfl
          (try simp only [Act.put, List.setIfInBounds_toArray, List.set_cons_zero, List.set_cons_succ])
          refine takeL (i := 10) (d := 74) (v := ?_) rfl rfl (by kernel_rfl) (by kernel_rfl) (by kernel_rfl) (by kernel_rfl) (by kernel_rfl) (by kernel_rfl) (fun _ _ _ _ _ h => h) (by rfl) ?_ hC ?_
          rotate_left
          · intro w hSw
            (try dsimp only at hSw)
            obtain ⟨hS0, hS1, hS2, hS3, hS4, hS5⟩ := hSw
            go_simp
            try with_reducible rfl
          (try simp only [Act.put, List.setIfInBounds_toArray, List.set_cons_zero, List.set_cons_succ])
          refine takeL (i := 12) (d := 76) (v := ?_) rfl rfl (by kernel_rfl) (by kernel_rfl) (by kernel_rfl) (by kernel_rfl) (by kernel_rfl) (by kernel_rfl) (fun _ _ _ _ _ h => h) (by rfl) ?_ hC ?_
          rotate_left
          · intro w hSw
            (try dsimp only at hSw)
            obtain ⟨hS0, hS1, hS2, hS3, hS4, hS5⟩ := hSw
            go_simp
            try with_reducible rfl
          (try simp only [Act.put, List.setIfInBounds_toArray, List.set_cons_zero, List.set_cons_succ])
          refine takeL0 (i := 14) (d := 78) (v := ?_) rfl rfl (by kernel_rfl) (by kernel_rfl) (by kernel_rfl) (by kernel_rfl) (fun _ _ _ _ _ h => h) (by rfl) ?_ (fun _ => hC) ?_
          rotate_left
          · intro w
            go_simp
            try with_reducible rfl
          (try simp only [Act.put, List.setIfInBounds_toArray, List.set_cons_zero, List.set_cons_succ])
          refine takeL (i := 15) (d := 79) (v := ?_) rfl rfl (by kernel_rfl) (by kernel_rfl) (by kernel_rfl) (by kernel_rfl) (by kernel_rfl) (by kernel_rfl) (fun _ _ _ _ _ h => h) (by rfl) ?_ hC ?_
          rotate_left
          · intro w hSw
            (try dsimp only at hSw)
            obtain ⟨hS0, hS1, hS2, hS3, hS4, hS5⟩ := hSw
            go_simp
            try with_reducible rfl
          (try simp only [Act.put, List.setIfInBounds_toArray, List.set_cons_zero, List.set_cons_succ])
          refine takeL0 (i := 16) (d := 80) (v := ?_) rfl rfl (by kernel_rfl) (by kernel_rfl) (by kernel_rfl) (by kernel_rfl) (fun _ _ _ _ _ h => h) (by rfl) ?_ (fun _ => hC) ?_
          rotate_left
          · intro w
            go_simp
            try with_reducible rfl
          (try simp only [Act.put, List.setIfInBounds_toArray, List.set_cons_zero, List.set_cons_succ])
          refine nextL (i := 17) rfl (by kernel_rfl) (fun K hK => ?_)
          have z0 := (HD.out.at 7 rfl).cellAt m (by omega)
          have f0 := (HD.out.at 7 rfl).frozenAt m
          obtain ⟨z1, hz1⟩ : ∃ z, (intsV (putL rooms rooms nm h))[m]? = some z := ⟨_, List.getElem?_eq_getElem (by simp [intsV, putL_len]; omega)⟩
          rw [hz1] at z0
          go_simp
          have HX := Lib.hid (HD.out.setRow 7 rfl m (.int .i64 x))
          generalize hwX : World.setCell _ _ _ = wX at HX ⊢
          clear z0 f0 hz1 hwX hC
          have hC : Box8 b12 b5 gr gt h (.slice (some ⟨ga, 0, none⟩) rooms.length ca) (.slice (some ⟨gto, 0, none⟩) rooms.length cto) (.slice (some ⟨gr, 0, none⟩) rooms.length qr) (.slice (some ⟨gt, 0, none⟩) rooms.length qt) x y wX := by
            refine ⟨(four_at (HX.out.at 6 rfl)).1, (four_at (HX.out.at 6 rfl)).2.1, (four_at (HX.out.at 0 rfl)).1, (four_at (HX.out.at 0 rfl)).2.1, ?_, ?_⟩
            · rw [← HXY.out.1]; exact row_cell (HX.out.at 1 rfl) rfl hlt
            · rw [← HXY.out.2]; exact row_cell (HX.out.at 2 rfl) HTN.out hlt
          refine hK.out _ _ (fun _ => hC) ?_
          clear hK K
          (try simp only [Act.put, List.setIfInBounds_toArray, List.set_cons_zero, List.set_cons_succ])
          refine takeL0 (i := 18) (d := 81) (v := ?_) rfl rfl (by kernel_rfl) (by kernel_rfl) (by kernel_rfl) (by kernel_rfl) (fun _ _ _ _ _ h => h) (by rfl) ?_ (fun _ => hC) ?_
          rotate_left
          · intro w
            go_simp
            try with_reducible rfl
          (try simp only [Act.put, List.setIfInBounds_toArray, List.set_cons_zero, List.set_cons_succ])
          refine nextL (i := 19) rfl (by kernel_rfl) (fun K hK => ?_)
          have z0 := (HX.out.at 8 rfl).cellAt m (by omega)
          have f0 := (HX.out.at 8 rfl).frozenAt m
          obtain ⟨z1, hz1⟩ : ∃ z, (intsV (putL traps traps nm h))[m]? = some z := ⟨_, List.getElem?_eq_getElem (by simp [intsV, putL_len, HTN.out]; omega)⟩
          rw [hz1] at z0
          go_simp
          have HY := Lib.hid (HX.out.setRow 8 rfl m (.int .i64 y))
          generalize hwY : World.setCell _ _ _ = wY at HY ⊢
          clear z0 f0 hz1 hwY
          refine hK.out _ _ (Till.done (by kernel_rfl)) ?_
          clear hK K
          (try simp only [Act.put, List.setIfInBounds_toArray, List.set_cons_zero, List.set_cons_succ])
          refine anyL_done (by kernel_rfl) ?_ _
          refine NoPanic.normal ?_
          go_wp2_with fail
          go_meet
          have e1 : (intsV (putL rooms rooms nm h)).set m (.int .i64 x) = intsV (putL rooms rooms nm (h + 1)) := by rw [intsL_set, putL_succ, HMT.out.2, HXY.out.1]
          have e2 : (intsV (putL traps traps nm h)).set m (.int .i64 y) = intsV (putL traps traps nm (h + 1)) := by rw [intsL_set, putL_succ, HMT.out.2, HXY.out.2]
          rw [← HBS.out]
          exact HY.out.same (by unfold nmOther; rw [← e1, ← e2]; rfl)
        case rest =>
        have HS := Lib.hid hcut.out
        clear hcut HR
        have hS0 := HS.out
        rw [← HBS.out] at hS0
        obtain ⟨k0, k1, k2, k3⟩ := four_at (hS0.at 0 rfl)
        have HS0 := Lib.hid hS0
        clear hS0
        go_wp2_with fail
        clear k0 k1 k2 k3
        obtain ⟨wo, rfl⟩ : ∃ wo : World, wo = wc := ⟨_, rfl⟩
        go_loopw [85] (fun i wr => ∃ k : Nat, k ≤ N.length ∧ i = .int .i64 k ∧ Hid (PW w wr (BS ++ nmOther b12 ga ca gto cto (.slice ua1 rs.length ua2) (.slice na1 N.length na2) rooms.length rs.length A1 A2 A3 A4 nba (putL rooms rooms nm (h + 1)) (putL traps traps nm (h + 1)) (runsUp rs nm 0) (nightsUp N nm h k)))) (fun i _ => N.length - (intOf i).toNat)
        case atStart => exact ⟨0, Nat.zero_le _, rfl, HS⟩
        case round =>
          obtain ⟨k, hk, rfl, HR⟩ := hrel
          by_cases hkl : k < N.length
          · have hki : (k : Int) < N.length := by omega
            clear HS HS0
            go_upto_region 12 with (fail)
            have hR0 := HR.out.drew
            rw [← HBS.out] at hR0
            have hlen0 := nightsUp_len N nm h k
            obtain ⟨bo, co, eo, hco, oc, oi⟩ := rows_at2 (m := N.length) (q := na2) (a := na1) hlen0 (hR0.at 10 rfl) (i := k) (by rw [hlen0]; exact hkl)
            obtain ⟨bc, cc, ec, hcc, cc1, ci⟩ := rows_at' (hR0.at 4 rfl) hkl
            subst eo
            subst ec
            obtain ⟨x, hx⟩ : ∃ x, nth (nthR N k) h = x := ⟨_, rfl⟩
            have cx := ci.cell hlt
            rw [hx] at cx
            have hC : Box12n b12 b5 bo bc (nbN k) k h (.slice (some ⟨bo, 0, none⟩) N.length na2) (.slice (some ⟨bc, 0, none⟩) N.length qn) (.slice (some ⟨nba k, 0, none⟩) rooms.length co) (.slice (some ⟨nbN k, 0, none⟩) rooms.length cc) x wr.drew := ⟨(four_at (hR0.at 6 rfl)).2.2.2, oc, (four_at (hR0.at 0 rfl)).2.2.2, cc1, cx⟩
            have z0 := oi.cell hmn
            have f0 := oi.free m
            have HD := Lib.hid (hR0.setRows 10 rfl (j := k) (o := m) (by rw [hlen0]; exact hkl) hmn x)
            have HXX := Lib.hid hx
            clear hR0 HR oc cc1 cx oi ci hlen0 hx
            refine wp_region_noPanic ?_
            refine anyL_start (S := Till [15] (Box12n b12 b5 bo bc (nbN k) k h (.slice (some ⟨bo, 0, none⟩) N.length na2) (.slice (some ⟨bc, 0, none⟩) N.length qn) (.slice (some ⟨nba k, 0, none⟩) rooms.length co) (.slice (some ⟨nbN k, 0, none⟩) rooms.length cc) x)) (by kernel_rfl) (fun _ => hC) (fun hT => ?_)
            clear hT
            obtain ⟨wd, hwd⟩ : ∃ wd, wr.drew = wd := ⟨_, rfl⟩
            rw [hwd] at HD hC z0 f0 ⊢
            clear hwd
            refine takeL0 (i := 0) (d := 88) (v := ?_) rfl rfl (by kernel_rfl) (by kernel_rfl) (by kernel_rfl) (by kernel_rfl) (fun _ _ _ _ _ h => h) (by rfl) ?_ (fun _ => hC) ?_
            rotate_left
            · intro w
              go_simp
              try with_reducible rfl
            (try simp only [Act.put, List.setIfInBounds_toArray, List.set_cons_zero, List.set_cons_succ])
            refine takeL0 (i := 2) (d := 90) (v := ?_) rfl rfl (by kernel_rfl) (by kernel_rfl) (by kernel_rfl) (by kernel_rfl) (fun _ _ _ _ _ h => h) (by rfl) ?_ (fun _ => hC) ?_
            rotate_left
            · intro w
              go_simp
              try with_reducible rfl
            (try simp only [Act.put, List.setIfInBounds_toArray, List.set_cons_zero, List.set_cons_succ])
            refine takeL0 (i := 5) (d := 93) (v := ?_) rfl rfl (by kernel_rfl) (by kernel_rfl) (by kernel_rfl) (by kernel_rfl) (fun _ _ _ _ _ h => h) (by rfl) ?_ (fun _ => hC) ?_
            rotate_left
            · intro w
              go_simp
              try with_reducible rfl
            (try simp only [Act.put, List.setIfInBounds_toArray, List.set_cons_zero, List.set_cons_succ])
            refine takeL0 (i := 6) (d := 94) (v := ?_) rfl rfl (by kernel_rfl) (by kernel_rfl) (by kernel_rfl) (by kernel_rfl) (fun _ _ _ _ _ h => h) (by rfl) ?_ (fun _ => hC) ?_
            rotate_left
            · intro w
              go_simp
              try with_reducible rfl
            (try simp only [Act.put, List.setIfInBounds_toArray, List.set_cons_zero, List.set_cons_succ])
            refine takeL0 (i := 8) (d := 96) (v := ?_) rfl rfl (by kernel_rfl) (by kernel_rfl) (by kernel_rfl) (by kernel_rfl) (fun _ _ _ _ _ h => h) (by rfl) ?_ (fun _ => hC) ?_
            rotate_left
            · intro w
              go_simp
              try with_reducible rfl
            (try simp only [Act.put, List.setIfInBounds_toArray, List.set_cons_zero, List.set_cons_succ])
            refine takeL0 (i := 11) (d := 99) (v := ?_) rfl rfl (by kernel_rfl) (by kernel_rfl) (by kernel_rfl) (by kernel_rfl) (fun _ _ _ _ _ h => h) (by rfl) ?_ (fun _ => hC) ?_
            rotate_left
            · intro w
              go_simp
              try with_reducible rfl
            (try simp only [Act.put, List.setIfInBounds_toArray, List.set_cons_zero, List.set_cons_succ])
            refine takeL (i := 1) (d := 89) (v := ?_) rfl rfl (by kernel_rfl) (by kernel_rfl) (by kernel_rfl) (by kernel_rfl) (by kernel_rfl) (by kernel_rfl) (fun _ _ _ _ _ h => h) (by rfl) ?_ hC ?_
            rotate_left
            · intro w hSw
              (try dsimp only at hSw)
              obtain ⟨hS0, hS1, hS2, hS3, hS4⟩ := hSw
              go_simp
              try with_reducible rfl
            (try simp only [Act.put, List.setIfInBounds_toArray, List.set_cons_zero, List.set_cons_succ])
            refine takeL0 (i := 3) (d := 91) (v := ?_) rfl rfl (by kernel_rfl) (by kernel_rfl) (by kernel_rfl) (by kernel_rfl) (fun _ _ _ _ _ h => h) (by rfl) ?_ (fun _ => hC) ?_
            rotate_left
            · intro w
              go_simp
              try with_reducible rfl
            (try simp only [Act.put, List.setIfInBounds_toArray, List.set_cons_zero, List.set_cons_succ])
            refine takeL (i := 4) (d := 92) (v := ?_) rfl rfl (by kernel_rfl) (by kernel_rfl) (by kernel_rfl) (by kernel_rfl) (by kernel_rfl) (by kernel_rfl) (fun _ _ _ _ _ h => h) (by rfl) ?_ hC ?_
            rotate_left
            · intro w hSw
              (try dsimp only at hSw)
              obtain ⟨hS0, hS1, hS2, hS3, hS4⟩ := hSw
              go_simp
              try with_reducible rfl
            (try simp only [Act.put, List.setIfInBounds_toArray, List.set_cons_zero, List.set_cons_succ])
            refine takeL (i := 7) (d := 95) (v := ?_) rfl rfl (by kernel_rfl) (by kernel_rfl) (by kernel_rfl) (by kernel_rfl) (by kernel_rfl) (by kernel_rfl) (fun _ _ _ _ _ h => h) (by rfl) ?_ hC ?_
            rotate_left
            · intro w hSw
              (try dsimp only at hSw)
              obtain ⟨hS0, hS1, hS2, hS3, hS4⟩ := hSw
              go_simp
              try with_reducible rfl
            (try simp only [Act.put, List.setIfInBounds_toArray, List.set_cons_zero, List.set_cons_succ])
            refine takeL0 (i := 9) (d := 97) (v := ?_) rfl rfl (by kernel_rfl) (by kernel_rfl) (by kernel_rfl) (by kernel_rfl) (fun _ _ _ _ _ h => h) (by rfl) ?_ (fun _ => hC) ?_
            rotate_left
            · intro w
              go_simp
              try with_reducible rfl
            (try simp only [Act.put, List.setIfInBounds_toArray, List.set_cons_zero, List.set_cons_succ])
            refine takeL (i := 10) (d := 98) (v := ?_) rfl rfl (by kernel_rfl) (by kernel_rfl) (by kernel_rfl) (by kernel_rfl) (by kernel_rfl) (by kernel_rfl) (fun _ _ _ _ _ h => h) (by rfl) ?_ hC ?_
            rotate_left
            · intro w hSw
              (try dsimp only at hSw)
              obtain ⟨hS0, hS1, hS2, hS3, hS4⟩ := hSw
              go_simp
              try with_reducible rfl
            (try simp only [Act.put, List.setIfInBounds_toArray, List.set_cons_zero, List.set_cons_succ])
            refine takeL0 (i := 12) (d := 100) (v := ?_) rfl rfl (by kernel_rfl) (by kernel_rfl) (by kernel_rfl) (by kernel_rfl) (fun _ _ _ _ _ h => h) (by rfl) ?_ (fun _ => hC) ?_
            rotate_left
            · intro w
              go_simp
              try with_reducible rfl
            (try simp only [Act.put, List.setIfInBounds_toArray, List.set_cons_zero, List.set_cons_succ])
            refine takeL (i := 13) (d := 101) (v := ?_) rfl rfl (by kernel_rfl) (by kernel_rfl) (by kernel_rfl) (by kernel_rfl) (by kernel_rfl) (by kernel_rfl) (fun _ _ _ _ _ h => h) (by rfl) ?_ hC ?_
            rotate_left
            · intro w hSw
              (try dsimp only at hSw)
              obtain ⟨hS0, hS1, hS2, hS3, hS4⟩ := hSw
              go_simp
              try with_reducible rfl
            (try simp only [Act.put, List.setIfInBounds_toArray, List.set_cons_zero, List.set_cons_succ])
            refine takeL0 (i := 14) (d := 102) (v := ?_) rfl rfl (by kernel_rfl) (by kernel_rfl) (by kernel_rfl) (by kernel_rfl) (fun _ _ _ _ _ h => h) (by rfl) ?_ (fun _ => hC) ?_
            rotate_left
            · intro w
              go_simp
              try with_reducible rfl
            (try simp only [Act.put, List.setIfInBounds_toArray, List.set_cons_zero, List.set_cons_succ])
            refine nextW (i := 15) rfl (by kernel_rfl) (by rfl) (fun K hK => ?_)
            go_simp
            generalize hwX : World.setCell _ _ _ = wX at HD ⊢
            clear z0 f0 hwX hC
            refine hK.out _ _ (Till.done (by kernel_rfl)) ?_
            clear hK K
            (try simp only [Act.put, List.setIfInBounds_toArray, List.set_cons_zero, List.set_cons_succ])
            refine anyL_done (by kernel_rfl) ?_ _
            refine NoPanic.normal ?_
            have e1 := nightsUp_set (nm := nm) (h := h) hkl
            rw [HMT.out.2, HXX.out] at e1
            have HS : Hid (PW w wX (BS ++ nmOther b12 ga ca gto cto (.slice ua1 rs.length ua2) (.slice (some ⟨bo, 0, none⟩) N.length na2) rooms.length rs.length A1 A2 A3 A4 nba (putL rooms rooms nm (h + 1)) (putL traps traps nm (h + 1)) (runsUp rs nm 0) (nightsUp N nm h (k + 1)))) := by
              rw [← HBS.out]
              exact HD.out.same (by rw [← e1]; rfl)
            clear HD e1
            go_wp2_with fail
            go_roundw
            case rel => exact ⟨k + 1, by omega, by go_num, HS⟩
            case measure => simp [intOf]; omega
          · obtain rfl : k = N.length := by omega
            have HS1 := HR.out
            rw [nightsUp_row] at HS1
            have HS1 := Lib.hid HS1
            clear HR HS HS0
            go_wp2_with fail
            go_roundw
            case rel => exact ⟨h + 1, by omega, by go_num, HS1⟩
            case measure => simp [intOf]; omega
    · obtain rfl : h = rooms.length := by omega
      have hR0 := HR.out
      rw [← HBS.out] at hR0
      obtain ⟨k0, k1, k2, k3⟩ := four_at (hR0.at 0 rfl)
      have H1 := Lib.hid HR.out
      clear HR H0 hR0
      go_wp2_with fail
      clear k0 k1 k2 k3
      obtain ⟨wo1, rfl⟩ : ∃ wo1 : World, wo1 = wr := ⟨_, rfl⟩
      go_loopw [108] (fun i wr => ∃ k : Nat, k ≤ rs.length ∧ i = .int .i64 k ∧ Hid (PW w wr (BS ++ nmOther b12 ga ca gto cto (.slice ua1 rs.length ua2) (.slice na1 N.length na2) rooms.length rs.length A1 A2 A3 A4 nba (putL rooms rooms nm rooms.length) (putL traps traps nm rooms.length) (runsUp rs nm k) (nightsUp N nm rooms.length 0)))) (fun i _ => rs.length - (intOf i).toNat)
      case atStart => exact ⟨0, Nat.zero_le _, rfl, H1⟩
      case round =>
        obtain ⟨k, hk, rfl, HR⟩ := hrel
        by_cases hkl : k < rs.length
        · as_aux_lemma =>
            have hki : (k : Int) < rs.length := by omega
            have hR0 := HR.out
            rw [← HBS.out] at hR0
            obtain ⟨xu, yu, eu, _, _, hcu⟩ := (HCOL.out wr _ hR0 rfl rfl rfl rfl).2.2.1.open
            obtain ⟨bu, ou, e9, hbu, m1, m2⟩ := hcu k hkl
            have e10 : au = xu := by injection eu
            subst e10
            subst e9
            obtain ⟨r1, r2, r3, r4⟩ := (okCol_of HCK.out).run k hkl
            obtain ⟨a, ha⟩ : ∃ a : Nat, (nthP rs k).1 = a := ⟨(nthP rs k).1.toNat, by have : 0 ≤ (nthP rs k).1 := r1; omega⟩
            obtain ⟨b, hb⟩ : ∃ b : Nat, (nthP rs k).2 = b := ⟨(nthP rs k).2.toNat, by have : 0 ≤ (nthP rs k).2 := r3; omega⟩
            have han : a < rooms.length := by have : (nthP rs k).1 < (rooms.length : Int) := r2; omega
            have hbn : b < rooms.length := by have : (nthP rs k).2 < (rooms.length : Int) := r4; omega
            have hai : (a : Int) < rooms.length := by omega
            have hbi : (b : Int) < rooms.length := by omega
            rw [show (⟨rooms, traps, rs, N⟩ : Col).runs = rs from rfl] at m1 m2
            rw [ha] at m1
            rw [hb] at m2
            have hturn : turnR nm (nthP rs k) = (nth nm b, nth nm a) := by unfold turnR; rw [ha, hb, Int.toNat_natCast, Int.toNat_natCast]
            have HTU := Lib.hid hturn
            have HB0 := Lib.hid (hR0.newBlk 63 #[.int .i64 a, .int .i64 b])
            clear hcu eu hbu r1 r2 r3 r4 ha hb hturn hR0 H1
            go_upto_region 18 with (fail)
            obtain ⟨WR, hWR⟩ : ∃ WR, wr.alloc (.cells #[.int .i64 a, .int .i64 b] 63) = WR := ⟨_, rfl⟩
            obtain ⟨b17, hb17⟩ : ∃ b17, wr.heap.size = b17 := ⟨_, rfl⟩
            have hB0 := HB0.out
            rw [hWR, hb17] at hB0
            rw [hWR, hb17]
            have HB1 := Lib.hid hB0
            clear hWR hb17 hB0 HB0 m1 m2 HR
            have hR0 := HB1.out.drew
            obtain ⟨gu, cu, eu, _, _⟩ := World.ownsRow.form (hR0.at 9 rfl) (show 0 < rs.length by omega)
            cases eu
            obtain ⟨x, hx⟩ : ∃ x, nth nm a = x := ⟨_, rfl⟩
            obtain ⟨y, hy⟩ : ∃ y, nth nm b = y := ⟨_, rfl⟩
            have hC : Box18 b12 b17 gn a b (.slice (some ⟨gu, 0, none⟩) rs.length ua2) x y WR.drew := by
              refine ⟨(four_at (hR0.at 6 rfl)).2.2.1, (two_at (hR0.at 11 rfl)).2, ?_, (two_at (hR0.at 11 rfl)).1, ?_⟩
              · rw [← hy]; exact row_cell (hR0.at 5 rfl) HPM.out.len hbn
              · rw [← hx]; exact row_cell (hR0.at 5 rfl) HPM.out.len han
            have HXY := Lib.hid (And.intro hx hy)
            have HD := Lib.hid hR0
            clear hR0 HB1 hx hy
            refine wp_region_noPanic ?_
            refine anyL_start (S := Till [15] (Box18 b12 b17 gn a b (.slice (some ⟨gu, 0, none⟩) rs.length ua2) x y)) (by kernel_rfl) (fun _ => hC) (fun hT => ?_)
            clear hT
            obtain ⟨wd, hwd⟩ : ∃ wd, WR.drew = wd := ⟨_, rfl⟩
            rw [hwd] at HD hC ⊢
            clear hwd
            refine takeL0 (i := 0) (d := 113) (v := ?_) rfl rfl (by kernel_rfl) (by kernel_rfl) (by kernel_rfl) (by kernel_rfl) (fun _ _ _ _ _ h => h) (by rfl) ?_ (fun _ => hC) ?_
            rotate_left
            · intro w
              go_simp
              try with_reducible rfl
            (try simp only [Act.put, List.setIfInBounds_toArray, List.set_cons_zero, List.set_cons_succ])
            refine takeL0 (i := 2) (d := 115) (v := ?_) rfl rfl (by kernel_rfl) (by kernel_rfl) (by kernel_rfl) (by kernel_rfl) (fun _ _ _ _ _ h => h) (by rfl) ?_ (fun _ => hC) ?_
            rotate_left
            · intro w
              go_simp
              try with_reducible rfl
            (try simp only [Act.put, List.setIfInBounds_toArray, List.set_cons_zero, List.set_cons_succ])
            refine takeL0 (i := 3) (d := 116) (v := ?_) rfl rfl (by kernel_rfl) (by kernel_rfl) (by kernel_rfl) (by kernel_rfl) (fun _ _ _ _ _ h => h) (by rfl) ?_ (fun _ => hC) ?_
            rotate_left
            · intro w
              go_simp
              try with_reducible rfl
            (try simp only [Act.put, List.setIfInBounds_toArray, List.set_cons_zero, List.set_cons_succ])
            refine takeL0 (i := 4) (d := 117) (v := ?_) rfl rfl (by kernel_rfl) (by kernel_rfl) (by kernel_rfl) (by kernel_rfl) (fun _ _ _ _ _ h => h) (by rfl) ?_ (fun _ => hC) ?_
            rotate_left
            · intro w
              go_simp
              try with_reducible rfl
            (try simp only [Act.put, List.setIfInBounds_toArray, List.set_cons_zero, List.set_cons_succ])
            refine takeL0 (i := 8) (d := 121) (v := ?_) rfl rfl (by kernel_rfl) (by kernel_rfl) (by kernel_rfl) (by kernel_rfl) (fun _ _ _ _ _ h => h) (by rfl) ?_ (fun _ => hC) ?_
            rotate_left
            · intro w
              go_simp
              try with_reducible rfl
            (try simp only [Act.put, List.setIfInBounds_toArray, List.set_cons_zero, List.set_cons_succ])
            refine takeL0 (i := 9) (d := 122) (v := ?_) rfl rfl (by kernel_rfl) (by kernel_rfl) (by kernel_rfl) (by kernel_rfl) (fun _ _ _ _ _ h => h) (by rfl) ?_ (fun _ => hC) ?_
            rotate_left
            · intro w
              go_simp
              try with_reducible rfl
            (try simp only [Act.put, List.setIfInBounds_toArray, List.set_cons_zero, List.set_cons_succ])
            refine takeL (i := 1) (d := 114) (v := ?_) rfl rfl (by kernel_rfl) (by kernel_rfl) (by kernel_rfl) (by kernel_rfl) (by kernel_rfl) (by kernel_rfl) (fun _ _ _ _ _ h => h) (by rfl) ?_ hC ?_
            rotate_left
            · intro w hSw
              (try dsimp only at hSw)
              obtain ⟨hS0, hS1, hS2, hS3, hS4⟩ := hSw
              go_simp
              try with_reducible rfl
            (try simp only [Act.put, List.setIfInBounds_toArray, List.set_cons_zero, List.set_cons_succ])
            refine takeL (i := 5) (d := 118) (v := ?_) rfl rfl (by kernel_rfl) (by kernel_rfl) (by kernel_rfl) (by kernel_rfl) (by kernel_rfl) (by kernel_rfl) (fun _ _ _ _ _ h => h) (by rfl) ?_ hC ?_
            rotate_left
            · intro w hSw
              (try dsimp only at hSw)
              obtain ⟨hS0, hS1, hS2, hS3, hS4⟩ := hSw
              go_simp
              try with_reducible rfl
            (try simp only [Act.put, List.setIfInBounds_toArray, List.set_cons_zero, List.set_cons_succ])
            refine takeL0 (i := 6) (d := 119) (v := ?_) rfl rfl (by kernel_rfl) (by kernel_rfl) (by kernel_rfl) (by kernel_rfl) (fun _ _ _ _ _ h => h) (by rfl) ?_ (fun _ => hC) ?_
            rotate_left
            · intro w
              go_simp
              try with_reducible rfl
            (try simp only [Act.put, List.setIfInBounds_toArray, List.set_cons_zero, List.set_cons_succ])
            refine takeL (i := 7) (d := 120) (v := ?_) rfl rfl (by kernel_rfl) (by kernel_rfl) (by kernel_rfl) (by kernel_rfl) (by kernel_rfl) (by kernel_rfl) (fun _ _ _ _ _ h => h) (by rfl) ?_ hC ?_
            rotate_left
            · intro w hSw
              (try dsimp only at hSw)
              obtain ⟨hS0, hS1, hS2, hS3, hS4⟩ := hSw
              go_simp
              try with_reducible rfl
            (try simp only [Act.put, List.setIfInBounds_toArray, List.set_cons_zero, List.set_cons_succ])
            refine takeL (i := 10) (d := 123) (v := ?_) rfl rfl (by kernel_rfl) (by kernel_rfl) (by kernel_rfl) (by kernel_rfl) (by kernel_rfl) (by kernel_rfl) (fun _ _ _ _ _ h => h) (by rfl) ?_ hC ?_
            rotate_left
            · intro w hSw
              (try dsimp only at hSw)
              obtain ⟨hS0, hS1, hS2, hS3, hS4⟩ := hSw
              go_simp
              try with_reducible rfl
            (try simp only [Act.put, List.setIfInBounds_toArray, List.set_cons_zero, List.set_cons_succ])
            refine takeL0 (i := 11) (d := 124) (v := ?_) rfl rfl (by kernel_rfl) (by kernel_rfl) (by kernel_rfl) (by kernel_rfl) (fun _ _ _ _ _ h => h) (by rfl) ?_ (fun _ => hC) ?_
            rotate_left
            · intro w
              go_simp
              try with_reducible rfl
            (try simp only [Act.put, List.setIfInBounds_toArray, List.set_cons_zero, List.set_cons_succ])
            refine takeL (i := 12) (d := 125) (v := ?_) rfl rfl (by kernel_rfl) (by kernel_rfl) (by kernel_rfl) (by kernel_rfl) (by kernel_rfl) (by kernel_rfl) (fun _ _ _ _ _ h => h) (by rfl) ?_ hC ?_
            rotate_left
            · intro w hSw
              (try dsimp only at hSw)
              obtain ⟨hS0, hS1, hS2, hS3, hS4⟩ := hSw
              go_simp
              try with_reducible rfl
            (try simp only [Act.put, List.setIfInBounds_toArray, List.set_cons_zero, List.set_cons_succ])
            refine takeL0 (i := 13) (d := 126) (v := ?_) rfl rfl (by kernel_rfl) (by kernel_rfl) (by kernel_rfl) (by kernel_rfl) (fun _ _ _ _ _ h => h) (by rfl) ?_ (fun _ => hC) ?_
            rotate_left
            · intro w
              go_simp
              try with_reducible rfl
            (try simp only [Act.put, List.setIfInBounds_toArray, List.set_cons_zero, List.set_cons_succ])
            refine takeL0 (i := 14) (d := 127) (v := ?_) rfl rfl (by kernel_rfl) (by kernel_rfl) (by kernel_rfl) (by kernel_rfl) (fun _ _ _ _ _ h => h) (by rfl) ?_ (fun _ => hC) ?_
            rotate_left
            · intro w
              go_simp
              try with_reducible rfl
            (try simp only [Act.put, List.setIfInBounds_toArray, List.set_cons_zero, List.set_cons_succ])
            refine nextW (i := 15) rfl (by kernel_rfl) (by rfl) (fun K hK => ?_)
            have st := store_run (k := k) (HD.out.at 9 rfl) (by rw [pairsV_len, runsUp_len]) hkl y x
            refine op_store rfl rfl rfl st ?_
            have HX := Lib.hid ((HD.out.setRow 9 rfl (k * 2) (.int .i64 y)).setRow 9 rfl (k * 2 + 1) (.int .i64 x))
            generalize hwX : World.setCell _ _ _ = wX at HX ⊢
            clear st hwX hC
            refine hK.out _ _ (Till.done (by kernel_rfl)) ?_
            clear hK K
            (try simp only [Act.put, List.setIfInBounds_toArray, List.set_cons_zero, List.set_cons_succ])
            refine anyL_done (by kernel_rfl) ?_ _
            refine NoPanic.normal ?_
            have e1 : ((pairsV (runsUp rs nm k)).set (k * 2) (.int .i64 y)).set (k * 2 + 1) (.int .i64 x) = pairsV (runsUp rs nm (k + 1)) := by
              rw [pairsV_set (runsUp rs nm k) (y, x) k, ← runsUp_set (nm := nm) hkl, HTU.out, HXY.out.1, HXY.out.2]
            have HS : Hid (PW w wX (BS ++ nmOther b12 ga ca gto cto (.slice (some ⟨gu, 0, none⟩) rs.length ua2) (.slice na1 N.length na2) rooms.length rs.length A1 A2 A3 A4 nba (putL rooms rooms nm rooms.length) (putL traps traps nm rooms.length) (runsUp rs nm (k + 1)) (nightsUp N nm rooms.length 0))) := by
              rw [← HBS.out]
              exact HX.out.pick [0, 1, 2, 3, 4, 5, 6, 7, 8, 9, 10] (by decide) (by unfold nmOther; rw [← e1]; rfl)
            clear HX e1 HD
            go_wp2_with fail
            go_roundw
            case rel => exact ⟨k + 1, by omega, by go_num, HS⟩
            case measure => simp [intOf]; omega
        · obtain rfl : k = rs.length := by omega
          have hQ0 := HR.out
          rw [← HBS.out] at hQ0
          obtain ⟨O, hOe⟩ : ∃ O : Col, namedC rooms traps rs N nm = O := ⟨_, rfl⟩
          have hlaw := named_law HPM.out HFE.out HCK.out
          have hcko := named_check HPM.out HCK.out
          have HCOLO : Hid (∀ W ps, PW w W ps → ps[7]? = some (pRow A1 3 1 rooms.length (.slice (some ⟨ga, 0, none⟩) rooms.length ca) (intsV (putL rooms rooms nm rooms.length))) → ps[8]? = some (pRow A2 3 1 rooms.length (.slice (some ⟨gto, 0, none⟩) rooms.length cto) (intsV (putL traps traps nm rooms.length))) → ps[9]? = some (pRow A3 63 2 rs.length (.slice ua1 rs.length ua2) (pairsV (runsUp rs nm rs.length))) → ps[10]? = some (pRowsI A4 rooms.length (.slice na1 N.length na2) nba (nightsUp N nm rooms.length 0)) → ColAt W W.heap.size (.slice (some ⟨ga, 0, none⟩) rooms.length ca) (.slice (some ⟨gto, 0, none⟩) rooms.length cto) (.slice ua1 rs.length ua2) (.slice na1 N.length na2) O) := fun W ps H e2 e3 e4 e5 => by
            rw [← hOe]
            exact cols_read hcko (putL_len _ _ _ _) (H.at 7 e2) (H.at 8 e3) (by have := H.at 9 e4; rw [runsUp_len]; exact this) (H.at 10 e5).1
          obtain ⟨C, hCe⟩ : ∃ C : Col, (⟨rooms, traps, rs, N⟩ : Col) = C := ⟨_, rfl⟩
          rw [hOe, hCe] at hlaw
          rw [hOe] at hcko
          have hfe := HFE.out
          have hck := HCK.out
          have hcol := HCOL.out
          rw [hCe] at hfe hck hcol
          have HFC := Lib.hid hfe
          have HKC := Lib.hid hck
          have HCC := Lib.hid hcol
          obtain ⟨lo, hlo⟩ : ∃ lo, (ratsC C).1 = lo := ⟨_, rfl⟩
          obtain ⟨hi, hhi⟩ : ∃ hi, (ratsC C).2 = hi := ⟨_, rfl⟩
          have hlo2 : (ratsC O).1 = lo := by rw [hlaw.rats]; exact hlo
          have hhi2 : (ratsC O).2 = hi := by rw [hlaw.rats]; exact hhi
          have HLH := Lib.hid (And.intro hlo (And.intro hhi (And.intro hlo2 hhi2)))
          have HRC : Hid (C.rooms.length = rooms.length) := by rw [← hCe]; exact rfl
          have HRO : Hid (O.rooms.length = rooms.length) := by rw [← hOe]; exact putL_len _ _ _ _
          have HLW := Lib.hid hlaw
          have HKO := Lib.hid hcko
          have HQ := Lib.hid hQ0
          clear hOe hlaw hcko hCe hfe hck hcol hlo hhi hlo2 hhi2 HR H1 HFE HCK HCOL
          obtain ⟨k0, k1, k2, k3⟩ := four_at (hQ0.at 0 rfl)
          clear hQ0
          go_wp2_with fail
          refine (Rats_ok C _ _ _ _ wr (HCC.out _ _ HQ.out rfl rfl rfl rfl) HFC.out).mono ?_
          rintro e w5 ⟨rfl, hb5⟩
          rw [HLH.out.1, HLH.out.2.1]
          have H5 := Lib.hid ((HQ.out.below hb5).newBlk 49 #[.int .i64 lo, .int .i64 hi])
          clear hb5 HQ k0 k1 k2 k3
          go_upto_region 21 with (fail)
          generalize Value.tuple #[Value.agg _, _] = q20
          obtain ⟨W5, hW5⟩ : ∃ W5, w5.alloc (.cells #[.int .i64 lo, .int .i64 hi] 49) = W5 := ⟨_, rfl⟩
          obtain ⟨b18, hb18⟩ : ∃ b18, w5.heap.size = b18 := ⟨_, rfl⟩
          have h5 := H5.out
          rw [hW5, hb18] at h5
          rw [hW5, hb18]
          have H5 := Lib.hid h5
          clear hW5 hb18
          obtain ⟨k0, k1, k2, k3⟩ := four_at (h5.at 6 rfl)
          clear h5
          go_wp2_with fail
          refine (Rats_ok O _ _ _ _ W5 (HCOLO.out _ _ H5.out rfl rfl rfl rfl) HLW.out.fit).mono ?_
          rintro e w6 ⟨rfl, hb6⟩
          rw [HLH.out.2.2.1, HLH.out.2.2.2]
          have H6 := Lib.hid ((H5.out.below hb6).newBlk 49 #[.int .i64 lo, .int .i64 hi])
          clear hb6 H5 k0 k1 k2 k3
          go_upto_region 22 with (fail)
          generalize Value.tuple #[Value.agg _, _] = q21
          obtain ⟨W6, hW6⟩ : ∃ W6, w6.alloc (.cells #[.int .i64 lo, .int .i64 hi] 49) = W6 := ⟨_, rfl⟩
          obtain ⟨b20, hb20⟩ : ∃ b20, w6.heap.size = b20 := ⟨_, rfl⟩
          have h6 := H6.out
          rw [hW6, hb20] at h6
          rw [hW6, hb20]
          have H6 := Lib.hid h6
          clear hW6 hb20
          obtain ⟨k0, k1, k2, k3⟩ := four_at (h6.at 0 rfl)
          clear h6
          go_wp2_with fail
          refine (Starts_ok C _ _ _ _ W6 (HCC.out _ _ H6.out rfl rfl rfl rfl) HFC.out).mono ?_
          rintro e w7 ⟨sv, rfl, hs7, hb7⟩
          obtain ⟨sa, sq, rfl, _, _, _⟩ := hs7.open
          rw [HLW.out.startsC, HRC.out] at hs7 ⊢
          have h7 := H6.out.below hb7
          have H7 := Lib.hid (And.intro h7 hs7)
          clear hb7 hs7 H6 k0 k1 k2 k3
          obtain ⟨k0, k1, k2, k3⟩ := four_at (h7.at 6 rfl)
          clear h7
          go_wp2_with fail
          refine (Starts_ok O _ _ _ _ w7 (HCOLO.out _ _ H7.out.1 rfl rfl rfl rfl) HLW.out.fit).mono ?_
          rintro e w8 ⟨tv, rfl, hs8, hb8⟩
          obtain ⟨ta, tq, rfl, _, _, _⟩ := hs8.open
          rw [HLW.out.startsO, HRC.out] at hs8 ⊢
          have h8 := H7.out.1.below hb8
          have H8 := Lib.hid (And.intro h8 (And.intro ((H7.out.2.below hb8 (Nat.le_refl _)).mono hb8.size) hs8))
          clear hb8 hs8 H7 k0 k1 k2 k3
          obtain ⟨k0, k1, k2, k3⟩ := four_at (h8.at 0 rfl)
          clear h8
          go_wp2_with fail
          refine (Need_ok C _ _ _ _ w8 (HCC.out _ _ H8.out.1 rfl rfl rfl rfl) HFC.out).mono ?_
          rintro e w9 ⟨xv, rfl, hs9, hb9⟩
          obtain ⟨xa, xq, rfl, _, _, _⟩ := hs9.open
          rw [HLW.out.needC, HRC.out] at hs9 ⊢
          have h9 := H8.out.1.below hb9
          have H9 := Lib.hid (And.intro h9 (And.intro ((H8.out.2.1.below hb9 (Nat.le_refl _)).mono hb9.size) (And.intro ((H8.out.2.2.below hb9 (Nat.le_refl _)).mono hb9.size) hs9)))
          clear hb9 hs9 H8 k0 k1 k2 k3
          obtain ⟨k0, k1, k2, k3⟩ := four_at (h9.at 6 rfl)
          clear h9
          go_wp2_with fail
          refine (Need_ok O _ _ _ _ w9 (HCOLO.out _ _ H9.out.1 rfl rfl rfl rfl) HLW.out.fit).mono ?_
          rintro e w10 ⟨yv, rfl, hs10, hb10⟩
          obtain ⟨ya, yq, rfl, _, _, _⟩ := hs10.open
          rw [HLW.out.needO, HRC.out] at hs10 ⊢
          have h10 := H9.out.1.below hb10
          obtain ⟨k0, k1⟩ := two_at (h10.at 11 rfl)
          obtain ⟨k2, k3⟩ := two_at (h10.at 12 rfl)
          have hnd : NdAt w _ _ _ _ _ _ _ _ _ w10 := ⟨h10.pick (ps' := nmBase b5 w1.heap.size (.slice (some ⟨gr, 0, none⟩) rooms.length qr) (.slice (some ⟨gt, 0, none⟩) rooms.length qt) (.slice au rs.length qu) (.slice an N.length qn) rooms.length rooms traps rs nbN N Bn gn cn nm ++ nmOther b12 ga ca gto cto (.slice ua1 rs.length ua2) (.slice na1 N.length na2) rooms.length rs.length A1 A2 A3 A4 nba (putL rooms rooms nm rooms.length) (putL traps traps nm rooms.length) (runsUp rs nm rs.length) (nightsUp N nm rooms.length 0)) [0, 1, 2, 3, 4, 5, 6, 7, 8, 9, 10] (by decide) rfl, ((H9.out.2.1.below hb10 (Nat.le_refl _)).mono hb10.size), ((H9.out.2.2.1.below hb10 (Nat.le_refl _)).mono hb10.size), ((H9.out.2.2.2.below hb10 (Nat.le_refl _)).mono hb10.size), hs10⟩
          obtain ⟨PS, hPS⟩ : ∃ PS, nmBase b5 w1.heap.size (.slice (some ⟨gr, 0, none⟩) rooms.length qr) (.slice (some ⟨gt, 0, none⟩) rooms.length qt) (.slice au rs.length qu) (.slice an N.length qn) rooms.length rooms traps rs nbN N Bn gn cn nm ++ nmOther b12 ga ca gto cto (.slice ua1 rs.length ua2) (.slice na1 N.length na2) rooms.length rs.length A1 A2 A3 A4 nba (putL rooms rooms nm rooms.length) (putL traps traps nm rooms.length) (runsUp rs nm rs.length) (nightsUp N nm rooms.length 0) = PS := ⟨_, rfl⟩
          have HPS := Lib.hid hPS
          rw [hPS] at hnd
          have HND := Lib.hid hnd
          have hnq := neqs_Span1 lo hi
          clear hb10 hs10 H9 h10 hnd hPS
          go_wp2_with fail
          clear hnq k0 k1 k2 k3
          obtain ⟨wo2, rfl⟩ : ∃ wo2 : World, wo2 = w10 := ⟨_, rfl⟩
          go_loopw [216] (fun i wr => ∃ h : Nat, h ≤ rooms.length ∧ i = .int .i64 h ∧ Hid (NdAt w PS (.slice sa rooms.length sq) (.slice ta rooms.length tq) (.slice xa rooms.length xq) (.slice ya rooms.length yq) (startsC C) (startsC O) (needC C) (needC O) wr)) (fun i _ => rooms.length - (intOf i).toNat)
          case atStart => exact ⟨0, Nat.zero_le _, rfl, HND⟩
          case round =>
            obtain ⟨h, hh, rfl, HR⟩ := hrel
            have hp0 := HR.out.pw
            rw [← HPS.out] at hp0
            obtain ⟨k0, k1, k2, k3⟩ := four_at (hp0.at 0 rfl)
            by_cases hlt : h < rooms.length
            · as_aux_lemma =>
                have hhi : (h : Int) < rooms.length := by omega
                have hnc := row_cell (hp0.at 5 rfl) HPM.out.len hlt
                obtain ⟨m, hm⟩ : ∃ m : Nat, nth nm h = m := ⟨(nth nm h).toNat, by have := HPM.out.lt h hlt; omega⟩
                have hmn : m < rooms.length := by have := HPM.out.lt h hlt; omega
                have hmi : (m : Int) < rooms.length := by omega
                have hmt : (nth nm h).toNat = m := by omega
                rw [hm] at hnc
                have hst := HLW.out.start h hlt
                have hne := HLW.out.need h hlt
                have hre := HLW.out.reach h R hlt
                rw [hmt] at hst hne hre
                obtain ⟨ln, hln⟩ : ∃ ln, (members (reachN C h R)).length = ln := ⟨_, rfl⟩
                rw [hln] at hre
                have HLN : Hid ((natsI (members (reachN C ((h : Int)).toNat ((R : Int)).toNat))).length = ln) := by rw [natsI_len, Int.toNat_natCast, Int.toNat_natCast]; exact hln
                have HLM : Hid ((natsI (members (reachN O ((m : Int)).toNat ((R : Int)).toNat))).length = ln) := by rw [natsI_len, Int.toNat_natCast, Int.toNat_natCast]; exact hre
                have HSN := Lib.hid (And.intro hst hne)
                have HP0 := Lib.hid hp0
                clear hm hmt hst hne hre hln hp0 HND
                go_wp2_with fail
                refine (Reaches_good C _ _ _ _ h R wr (HCC.out _ _ HP0.out rfl rfl rfl rfl) (reach_ok HKC.out (by rw [HRC.out]; exact hlt) hR)).mono ?_
                rintro e w11 ⟨lv, rfl, hlv, hb11⟩
                obtain ⟨la, lq, rfl, _, _, _⟩ := hlv.open
                rw [HLN.out]
                have HR1 := Lib.hid (HR.out.below hb11)
                have hp1 := HP0.out.below hb11
                have HP1 := Lib.hid hp1
                clear hlv hb11 k0 k1 k2 k3
                obtain ⟨k0, k1, k2, k3⟩ := four_at (hp1.at 6 rfl)
                clear hp1
                go_wp2_with fail
                refine (Reaches_good O _ _ _ _ m R w11 (HCOLO.out _ _ HP1.out rfl rfl rfl rfl) (reach_ok HKO.out (by rw [HRO.out]; exact hmn) hR)).mono ?_
                rintro e w12 ⟨mv, rfl, hmv, hbw12⟩
                obtain ⟨ma, mq, rfl, _, _, _⟩ := hmv.open
                rw [HLM.out]
                have HR2 := Lib.hid (HR1.out.below hbw12).drew
                clear hmv hbw12 k0 k1 k2 k3 hnc HP0 HP1 HR1 HR
                go_upto_region 33 with (fail)
                obtain ⟨x1, y1, e1, _, _, c1⟩ := HR2.out.s.open
                obtain ⟨bs, os, f1, _, s1, s2⟩ := c1 h (by rw [HLW.out.startsC, HRC.out]; exact hlt)
                have g1 : sa = x1 := by injection e1
                subst g1
                subst f1
                obtain ⟨x2, y2, e2, _, _, c2⟩ := HR2.out.t.open
                obtain ⟨bt, ot, f2, _, s3, s4⟩ := c2 m (by rw [HLW.out.startsO, HRC.out]; exact hmn)
                have g2 : ta = x2 := by injection e2
                subst g2
                subst f2
                obtain ⟨x3, y3, e3, _, _, c3⟩ := HR2.out.x.open
                obtain ⟨bx, ox, f3, _, s5⟩ := c3 h (by rw [HLW.out.needC, HRC.out]; exact hlt)
                have g3 : xa = x3 := by injection e3
                subst g3
                subst f3
                obtain ⟨x4, y4, e4, _, _, c4⟩ := HR2.out.y.open
                obtain ⟨by_, oy, f4, _, s6⟩ := c4 m (by rw [HLW.out.needO, HRC.out]; exact hmn)
                have g4 : ya = x4 := by injection e4
                subst g4
                subst f4
                rw [HSN.out.1] at s3 s4
                rw [HSN.out.2] at s6
                obtain ⟨slo, hslo⟩ : ∃ slo, (nthP (startsC C) h).1 = slo := ⟨_, rfl⟩
                obtain ⟨shi, hshi⟩ : ∃ shi, (nthP (startsC C) h).2 = shi := ⟨_, rfl⟩
                obtain ⟨nx, hnx⟩ : ∃ nx, nth (needC C) h = nx := ⟨_, rfl⟩
                rw [hslo] at s1 s3
                rw [hshi] at s2 s4
                rw [hnx] at s5 s6
                have hC : Box33 bs (os + h * 2) bt (ot + m * 2) bx (ox + h) by_ (oy + m) slo shi nx w12.drew := ⟨s1, s2, s3, s4, s5, s6⟩
                have hnq := neqs_Span1 slo shi
                clear c1 c2 c3 c4 e1 e2 e3 e4 s1 s2 s3 s4 s5 s6 hslo hshi hnx
                refine wp_region_noPanic ?_
                refine anyL_start (S := Till [] (Box33 bs (os + h * 2) bt (ot + m * 2) bx (ox + h) by_ (oy + m) slo shi nx)) (by kernel_rfl) (fun _ => hC) (fun hT => ?_)
                refine takeL0 (i := 0) (d := 235) (v := ?_) rfl rfl (by kernel_rfl) (by kernel_rfl) (by kernel_rfl) (by kernel_rfl) (fun _ _ _ _ _ h => h) (by rfl) ?_ (fun _ => hC) ?_
                rotate_left
                · intro w
                  go_simp
                  try with_reducible rfl
                (try simp only [Act.put, List.setIfInBounds_toArray, List.set_cons_zero, List.set_cons_succ])
                refine takeL0 (i := 1) (d := 236) (v := ?_) rfl rfl (by kernel_rfl) (by kernel_rfl) (by kernel_rfl) (by kernel_rfl) (fun _ _ _ _ _ h => h) (by rfl) ?_ (fun _ => hC) ?_
                rotate_left
                · intro w
                  go_simp
                  try with_reducible rfl
                (try simp only [Act.put, List.setIfInBounds_toArray, List.set_cons_zero, List.set_cons_succ])
                refine takeL0 (i := 2) (d := 237) (v := ?_) rfl rfl (by kernel_rfl) (by kernel_rfl) (by kernel_rfl) (by kernel_rfl) (fun _ _ _ _ _ h => h) (by rfl) ?_ (fun _ => hC) ?_
                rotate_left
                · intro w
                  go_simp
                  try with_reducible rfl
                (try simp only [Act.put, List.setIfInBounds_toArray, List.set_cons_zero, List.set_cons_succ])
                refine takeL0 (i := 3) (d := 238) (v := ?_) rfl rfl (by kernel_rfl) (by kernel_rfl) (by kernel_rfl) (by kernel_rfl) (fun _ _ _ _ _ h => h) (by rfl) ?_ (fun _ => hC) ?_
                rotate_left
                · intro w
                  go_simp
                  try with_reducible rfl
                (try simp only [Act.put, List.setIfInBounds_toArray, List.set_cons_zero, List.set_cons_succ])
                refine takeL0 (i := 4) (d := 239) (v := ?_) rfl rfl (by kernel_rfl) (by kernel_rfl) (by kernel_rfl) (by kernel_rfl) (fun _ _ _ _ _ h => h) (by rfl) ?_ (fun _ => hC) ?_
                rotate_left
                · intro w
                  go_simp
                  try with_reducible rfl
                (try simp only [Act.put, List.setIfInBounds_toArray, List.set_cons_zero, List.set_cons_succ])
                refine takeL0 (i := 5) (d := 240) (v := ?_) rfl rfl (by kernel_rfl) (by kernel_rfl) (by kernel_rfl) (by kernel_rfl) (fun _ _ _ _ _ h => h) (by rfl) ?_ (fun _ => hC) ?_
                rotate_left
                · intro w
                  go_simp
                  try with_reducible rfl
                (try simp only [Act.put, List.setIfInBounds_toArray, List.set_cons_zero, List.set_cons_succ])
                refine takeL0 (i := 6) (d := 241) (v := ?_) rfl rfl (by kernel_rfl) (by kernel_rfl) (by kernel_rfl) (by kernel_rfl) (fun _ _ _ _ _ h => h) (by rfl) ?_ (fun _ => hC) ?_
                rotate_left
                · intro w
                  go_simp
                  try with_reducible rfl
                (try simp only [Act.put, List.setIfInBounds_toArray, List.set_cons_zero, List.set_cons_succ])
                refine takeL0 (i := 7) (d := 242) (v := ?_) rfl rfl (by kernel_rfl) (by kernel_rfl) (by kernel_rfl) (by kernel_rfl) (fun _ _ _ _ _ h => h) (by rfl) ?_ (fun _ => hC) ?_
                rotate_left
                · intro w
                  go_simp
                  try with_reducible rfl
                (try simp only [Act.put, List.setIfInBounds_toArray, List.set_cons_zero, List.set_cons_succ])
                refine takeL0 (i := 8) (d := 243) (v := ?_) rfl rfl (by kernel_rfl) (by kernel_rfl) (by kernel_rfl) (by kernel_rfl) (fun _ _ _ _ _ h => h) (by rfl) ?_ (fun _ => hC) ?_
                rotate_left
                · intro w
                  go_simp
                  try with_reducible rfl
                (try simp only [Act.put, List.setIfInBounds_toArray, List.set_cons_zero, List.set_cons_succ])
                refine takeL0 (i := 9) (d := 244) (v := ?_) rfl rfl (by kernel_rfl) (by kernel_rfl) (by kernel_rfl) (by kernel_rfl) (fun _ _ _ _ _ h => h) (by rfl) ?_ (fun _ => hC) ?_
                rotate_left
                · intro w
                  go_simp
                  try with_reducible rfl
                (try simp only [Act.put, List.setIfInBounds_toArray, List.set_cons_zero, List.set_cons_succ])
                refine takeL0 (i := 11) (d := 246) (v := ?_) rfl rfl (by kernel_rfl) (by kernel_rfl) (by kernel_rfl) (by kernel_rfl) (fun _ _ _ _ _ h => h) (by rfl) ?_ (fun _ => hC) ?_
                rotate_left
                · intro w
                  go_simp
                  try with_reducible rfl
                (try simp only [Act.put, List.setIfInBounds_toArray, List.set_cons_zero, List.set_cons_succ])
                refine takeL0 (i := 12) (d := 247) (v := ?_) rfl rfl (by kernel_rfl) (by kernel_rfl) (by kernel_rfl) (by kernel_rfl) (fun _ _ _ _ _ h => h) (by rfl) ?_ (fun _ => hC) ?_
                rotate_left
                · intro w
                  go_simp
                  try with_reducible rfl
                (try simp only [Act.put, List.setIfInBounds_toArray, List.set_cons_zero, List.set_cons_succ])
                refine takeL0 (i := 13) (d := 248) (v := ?_) rfl rfl (by kernel_rfl) (by kernel_rfl) (by kernel_rfl) (by kernel_rfl) (fun _ _ _ _ _ h => h) (by rfl) ?_ (fun _ => hC) ?_
                rotate_left
                · intro w
                  go_simp
                  try with_reducible rfl
                (try simp only [Act.put, List.setIfInBounds_toArray, List.set_cons_zero, List.set_cons_succ])
                refine takeL (i := 10) (d := 245) (v := ?_) rfl rfl (by kernel_rfl) (by kernel_rfl) (by kernel_rfl) (by kernel_rfl) (by kernel_rfl) (by kernel_rfl) (fun _ _ _ _ _ h => h) (by rfl) ?_ hC ?_
                rotate_left
                · intro w hSw
                  (try dsimp only at hSw)
                  obtain ⟨hS0, hS1, hS2, hS3, hS4, hS5⟩ := hSw
                  go_simp
                  try with_reducible rfl
                (try simp only [Act.put, List.setIfInBounds_toArray, List.set_cons_zero, List.set_cons_succ])
                refine takeL (i := 14) (d := 249) (v := ?_) rfl rfl (by kernel_rfl) (by kernel_rfl) (by kernel_rfl) (by kernel_rfl) (by kernel_rfl) (by kernel_rfl) (fun _ _ _ _ _ h => h) (by rfl) ?_ hC ?_
                rotate_left
                · intro w hSw
                  (try dsimp only at hSw)
                  obtain ⟨hS0, hS1, hS2, hS3, hS4, hS5⟩ := hSw
                  go_simp
                  try with_reducible rfl
                (try simp only [Act.put, List.setIfInBounds_toArray, List.set_cons_zero, List.set_cons_succ])
                refine takeL0 (i := 15) (d := 250) (v := ?_) rfl rfl (by kernel_rfl) (by kernel_rfl) (by kernel_rfl) (by kernel_rfl) (fun _ _ _ _ _ h => h) (by rfl) ?_ (fun _ => hC) ?_
                rotate_left
                · intro w
                  go_simp
                  try with_reducible rfl
                (try simp only [Act.put, List.setIfInBounds_toArray, List.set_cons_zero, List.set_cons_succ])
                refine takeL0 (i := 16) (d := 251) (v := ?_) rfl rfl (by kernel_rfl) (by kernel_rfl) (by kernel_rfl) (by kernel_rfl) (fun _ _ _ _ _ h => h) (by rfl) ?_ (fun _ => hC) ?_
                rotate_left
                · intro w
                  go_simp
                  try with_reducible rfl
                (try simp only [Act.put, List.setIfInBounds_toArray, List.set_cons_zero, List.set_cons_succ])
                refine takeL0 (i := 17) (d := 252) (v := ?_) rfl rfl (by kernel_rfl) (by kernel_rfl) (by kernel_rfl) (by kernel_rfl) (fun _ _ _ _ _ h => h) (by rfl) ?_ (fun _ => hC) ?_
                rotate_left
                · intro w
                  go_simp
                  try with_reducible rfl
                (try simp only [Act.put, List.setIfInBounds_toArray, List.set_cons_zero, List.set_cons_succ])
                refine takeL0 (i := 18) (d := 253) (v := ?_) rfl rfl (by kernel_rfl) (by kernel_rfl) (by kernel_rfl) (by kernel_rfl) (fun _ _ _ _ _ h => h) (by rfl) ?_ (fun _ => hC) ?_
                rotate_left
                · intro w
                  go_simp
                  try with_reducible rfl
                (try simp only [Act.put, List.setIfInBounds_toArray, List.set_cons_zero, List.set_cons_succ])
                refine takeL0 (i := 19) (d := 254) (v := ?_) rfl rfl (by kernel_rfl) (by kernel_rfl) (by kernel_rfl) (by kernel_rfl) (fun _ _ _ _ _ h => h) (by rfl) ?_ (fun _ => hC) ?_
                rotate_left
                · intro w
                  go_simp
                  try with_reducible rfl
                (try simp only [Act.put, List.setIfInBounds_toArray, List.set_cons_zero, List.set_cons_succ])
                refine takeL0 (i := 20) (d := 255) (v := ?_) rfl rfl (by kernel_rfl) (by kernel_rfl) (by kernel_rfl) (by kernel_rfl) (fun _ _ _ _ _ h => h) (by rfl) ?_ (fun _ => hC) ?_
                rotate_left
                · intro w
                  go_simp
                  try with_reducible rfl
                (try simp only [Act.put, List.setIfInBounds_toArray, List.set_cons_zero, List.set_cons_succ])
                refine takeL0 (i := 22) (d := 257) (v := ?_) rfl rfl (by kernel_rfl) (by kernel_rfl) (by kernel_rfl) (by kernel_rfl) (fun _ _ _ _ _ h => h) (by rfl) ?_ (fun _ => hC) ?_
                rotate_left
                · intro w
                  go_simp
                  try with_reducible rfl
                (try simp only [Act.put, List.setIfInBounds_toArray, List.set_cons_zero, List.set_cons_succ])
                refine takeL0 (i := 23) (d := 258) (v := ?_) rfl rfl (by kernel_rfl) (by kernel_rfl) (by kernel_rfl) (by kernel_rfl) (fun _ _ _ _ _ h => h) (by rfl) ?_ (fun _ => hC) ?_
                rotate_left
                · intro w
                  go_simp
                  try with_reducible rfl
                (try simp only [Act.put, List.setIfInBounds_toArray, List.set_cons_zero, List.set_cons_succ])
                refine takeL0 (i := 24) (d := 259) (v := ?_) rfl rfl (by kernel_rfl) (by kernel_rfl) (by kernel_rfl) (by kernel_rfl) (fun _ _ _ _ _ h => h) (by rfl) ?_ (fun _ => hC) ?_
                rotate_left
                · intro w
                  go_simp
                  try with_reducible rfl
                (try simp only [Act.put, List.setIfInBounds_toArray, List.set_cons_zero, List.set_cons_succ])
                refine takeL (i := 21) (d := 256) (v := ?_) rfl rfl (by kernel_rfl) (by kernel_rfl) (by kernel_rfl) (by kernel_rfl) (by kernel_rfl) (by kernel_rfl) (fun _ _ _ _ _ h => h) (by rfl) ?_ hC ?_
                rotate_left
                · intro w hSw
                  (try dsimp only at hSw)
                  obtain ⟨hS0, hS1, hS2, hS3, hS4, hS5⟩ := hSw
                  go_simp
                  try with_reducible rfl
                (try simp only [Act.put, List.setIfInBounds_toArray, List.set_cons_zero, List.set_cons_succ])
                refine takeL (i := 25) (d := 260) (v := ?_) rfl rfl (by kernel_rfl) (by kernel_rfl) (by kernel_rfl) (by kernel_rfl) (by kernel_rfl) (by kernel_rfl) (fun _ _ _ _ _ h => h) (by rfl) ?_ hC ?_
                rotate_left
                · intro w hSw
                  (try dsimp only at hSw)
                  obtain ⟨hS0, hS1, hS2, hS3, hS4, hS5⟩ := hSw
                  go_simp
                  try with_reducible rfl
                (try simp only [Act.put, List.setIfInBounds_toArray, List.set_cons_zero, List.set_cons_succ])
                refine takeL0 (i := 26) (d := 261) (v := ?_) rfl rfl (by kernel_rfl) (by kernel_rfl) (by kernel_rfl) (by kernel_rfl) (fun _ _ _ _ _ h => h) (by rfl) ?_ (fun _ => hC) ?_
                rotate_left
                · intro w
                  go_simp
                  try with_reducible rfl
                (try simp only [Act.put, List.setIfInBounds_toArray, List.set_cons_zero, List.set_cons_succ])
                refine takeL0 (i := 27) (d := 262) (v := ?_) rfl rfl (by kernel_rfl) (by kernel_rfl) (by kernel_rfl) (by kernel_rfl) (fun _ _ _ _ _ h => h) (by rfl) ?_ (fun _ => hC) ?_
                rotate_left
                · intro w
                  go_simp
                  try with_reducible rfl
                (try simp only [Act.put, List.setIfInBounds_toArray, List.set_cons_zero, List.set_cons_succ])
                refine takeL0 (i := 28) (d := 263) (v := ?_) rfl rfl (by kernel_rfl) (by kernel_rfl) (by kernel_rfl) (by kernel_rfl) (fun _ _ _ _ _ h => h) (by rfl) ?_ (fun _ => hC) ?_
                rotate_left
                · intro w
                  go_simp
                  try with_reducible rfl
                (try simp only [Act.put, List.setIfInBounds_toArray, List.set_cons_zero, List.set_cons_succ])
                refine takeL0 (i := 29) (d := 264) (v := ?_) rfl rfl (by kernel_rfl) (by kernel_rfl) (by kernel_rfl) (by kernel_rfl) (fun _ _ _ _ _ h => h) (by rfl) ?_ (fun _ => hC) ?_
                rotate_left
                · intro w
                  go_simp
                  try with_reducible rfl
                (try simp only [Act.put, List.setIfInBounds_toArray, List.set_cons_zero, List.set_cons_succ])
                refine takeL0 (i := 30) (d := 265) (v := ?_) rfl rfl (by kernel_rfl) (by kernel_rfl) (by kernel_rfl) (by kernel_rfl) (fun _ _ _ _ _ h => h) (by rfl) ?_ (fun _ => hC) ?_
                rotate_left
                · intro w
                  go_simp
                  try with_reducible rfl
                (try simp only [Act.put, List.setIfInBounds_toArray, List.set_cons_zero, List.set_cons_succ])
                refine takeL0 (i := 31) (d := 266) (v := ?_) rfl rfl (by kernel_rfl) (by kernel_rfl) (by kernel_rfl) (by kernel_rfl) (fun _ _ _ _ _ h => h) (by rfl) ?_ (fun _ => hC) ?_
                rotate_left
                · intro w
                  go_simp
                  try with_reducible rfl
                (try simp only [Act.put, List.setIfInBounds_toArray, List.set_cons_zero, List.set_cons_succ])
                refine takeL0 (i := 32) (d := 267) (v := ?_) rfl rfl (by kernel_rfl) (by kernel_rfl) (by kernel_rfl) (by kernel_rfl) (fun _ _ _ _ _ h => h) (by rfl) ?_ (fun _ => hC) ?_
                rotate_left
                · intro w
                  go_simp
                  try with_reducible rfl
                (try simp only [Act.put, List.setIfInBounds_toArray, List.set_cons_zero, List.set_cons_succ])
                refine takeL0 (i := 33) (d := 268) (v := ?_) rfl rfl (by kernel_rfl) (by kernel_rfl) (by kernel_rfl) (by kernel_rfl) (fun _ _ _ _ _ h => h) (by rfl) ?_ (fun _ => hC) ?_
                rotate_left
                · intro w
                  go_simp
                  try with_reducible rfl
                (try simp only [Act.put, List.setIfInBounds_toArray, List.set_cons_zero, List.set_cons_succ])
                refine takeL0 (i := 34) (d := 269) (v := ?_) rfl rfl (by kernel_rfl) (by kernel_rfl) (by kernel_rfl) (by kernel_rfl) (fun _ _ _ _ _ h => h) (by rfl) ?_ (fun _ => hC) ?_
                rotate_left
                · intro w
                  go_simp
                  try with_reducible rfl
                (try simp only [Act.put, List.setIfInBounds_toArray, List.set_cons_zero, List.set_cons_succ])
                refine anyL_done (by kernel_rfl) ?_ _
                refine NoPanic.normal ?_
                clear hC hT hnq
                go_wp2_with fail
                go_roundw
                case rel => exact ⟨h + 1, by omega, by go_num, HR2⟩
                case measure => simp [intOf]; omega
            · as_aux_lemma =>
                obtain rfl : h = rooms.length := by omega
                have HP0 := Lib.hid hp0
                have hbeC : baitErr C R = 0 := bait_ok HKC.out HFC.out hR
                have hbeO : baitErr O R = 0 := bait_ok HKO.out HLW.out.fit hR
                have HBE := Lib.hid (And.intro hbeC hbeO)
                obtain ⟨lb, hlb⟩ : ∃ lb, (baitsC C ((R : Int)).toNat).length = lb := ⟨_, rfl⟩
                have hlb2 : (baitsC O ((R : Int)).toNat).length = lb := (HLW.out.baits _).trans hlb
                obtain ⟨ls, hls⟩ : ∃ ls, (apartC C ((R : Int)).toNat).length = ls := ⟨_, rfl⟩
                have hls2 : (apartC O ((R : Int)).toNat).length = ls := (HLW.out.apart _).trans hls
                have HLL := Lib.hid (And.intro hlb (And.intro hlb2 (And.intro hls hls2)))
                clear hp0 HR HND hbeC hbeO hlb hlb2 hls hls2
                go_wp2_with fail
                refine (Baits_ok C _ _ _ _ R wr (HCC.out _ _ HP0.out rfl rfl rfl rfl) HBE.out.1).mono ?_
                rintro e w11 ⟨v1, rfl, hv1, hb11⟩
                obtain ⟨a1, q1, rfl, _, _, _⟩ := hv1.open
                rw [HLL.out.1]
                have hp1 := HP0.out.below hb11
                have HP1 := Lib.hid hp1
                clear hv1 hb11 k0 k1 k2 k3 HP0
                obtain ⟨k0, k1, k2, k3⟩ := four_at (hp1.at 6 rfl)
                clear hp1
                go_wp2_with fail
                refine (Baits_ok O _ _ _ _ R w11 (HCOLO.out _ _ HP1.out rfl rfl rfl rfl) HBE.out.2).mono ?_
                rintro e w12 ⟨v2, rfl, hv2, hbw12⟩
                obtain ⟨a2, q2, rfl, _, _, _⟩ := hv2.open
                rw [HLL.out.2.1]
                have hp2 := HP1.out.below hbw12
                have HP2 := Lib.hid hp2
                clear hv2 hbw12 k0 k1 k2 k3 HP1
                obtain ⟨k0, k1, k2, k3⟩ := four_at (hp2.at 0 rfl)
                clear hp2
                go_wp2_with fail
                refine (Apart_ok C _ _ _ _ R w12 (HCC.out _ _ HP2.out rfl rfl rfl rfl) HBE.out.1).mono ?_
                rintro e w13 ⟨v3, rfl, hv3, hb13⟩
                obtain ⟨a3, q3, rfl, _, _, _⟩ := hv3.open
                rw [HLL.out.2.2.1]
                have hp3 := HP2.out.below hb13
                have HP3 := Lib.hid hp3
                clear hv3 hb13 k0 k1 k2 k3 HP2
                obtain ⟨k0, k1, k2, k3⟩ := four_at (hp3.at 6 rfl)
                clear hp3
                go_wp2_with fail
                refine (Apart_ok O _ _ _ _ R w13 (HCOLO.out _ _ HP3.out rfl rfl rfl rfl) HBE.out.2).mono ?_
                rintro e w14 ⟨v4, rfl, hv4, hb14⟩
                obtain ⟨a4, q4, rfl, _, _, _⟩ := hv4.open
                rw [HLL.out.2.2.2]
                have HP4 := Lib.hid (HP3.out.below hb14)
                clear hv4 hb14 k0 k1 k2 k3 HP3
                go_wp2_with fail
                refine (awake_any w14).mono ?_
                rintro e w15 ⟨rfl, hb15⟩
                have HP5 := Lib.hid (HP4.out.below hb15)
                clear hb15 HP4
                go_wp2_with fail
                go_ret
                exact ⟨rfl, HP5.out.low⟩
end Go.Proofs.Ytnhifinfjfpoiaa

namespace Go.Proofs.Ytnhifinfjfpoiaa
open Go.RowKit Go.ChangeShapes Go.WideShapes Go.ChangeAt

theorem ownKnob_none : ownKnob Try.prog.godebug = none := by kernel_rfl
theorem laidOut_yes : laidOutB Try.prog = true := by kernel_rfl

set_option maxRecDepth 100000 in
theorem ratNamed_lifted (os : Os) (started : os.Started) (H : Type) (enc : TypeId × Value → H) :
    ReturnsInHanded {} Try.checked os 9 .any (Rows.ratNamedSpec.pre6 enc Try.prog Try.f9 Rows.ratNamedRow.domain false) (Rows.ratNamedSpec.post enc Try.prog Try.f9 false true false false) := by
  refine returnsInHanded_of_change_sized (C := Try.checked) ownKnob_none started (by kernel_rfl) Try.func9
    (ChangeSpec.witness6 (enc := enc) (C := Try.checked) false ⟨#[], #[.slice none 0 0, .slice none 0 0, .int .i64 0], []⟩ 8 (by kernel_rfl) (by kernel_rfl) (by kernel_rfl) (by kernel_rfl)) ?_
  intro W base args ds gs before hval0 hW0 _ hsz0 _
  have hval : ∀ (j : Nat) t v, Try.f9.params[j]? = some t → args[j]? = some v → Value.okWide Try.prog W .any base t v := hval0
  have hsz : (DataW.weightsEach Try.prog (Try.f9.params.toList ++ Rows.ratNamedSpec.plain.varTypes Try.prog) (ds ++ gs)).all (· ≤ reachBytes) = true := hsz0
  have hW := hW0
  obtain ⟨p, q, hA0, hV, rfl, hfz, hnd⟩ := hW
  have hA : DataW.TrodAll enc Try.prog W 0 (fun _ => true) true Try.f9.params.toList args.toList ds p := hA0
  rw [Try.params9] at hA hval hsz
  obtain ⟨v0, v1, v2, d0, d1, d2, p0, p1, p2, rfl, rfl, rfl, h0, h1, h2⟩ := trodAll_three hA
  obtain ⟨rfl, rfl⟩ := trodVars_none hV
  have k0 := h0
  have k1 := h1
  have k2 := h2
  obtain ⟨b0, hb0⟩ := open_bytes (hval 0 _ v0 rfl rfl) h0 (fun m hm => by
    have := List.all_eq_true.1 hsz m (DataW.weights_mem_each (j := 0) rfl rfl m hm)
    simpa using this)
  obtain ⟨b1, hb1⟩ := open_bytes (hval 1 _ v1 rfl rfl) h1 (fun m hm => by
    have := List.all_eq_true.1 hsz m (DataW.weights_mem_each (j := 1) rfl rfl m hm)
    simpa using this)
  obtain ⟨a2, rfl, rfl, rfl, wa2⟩ := open_int Try.underlying3 (hval 2 _ v2 rfl rfl) h2
  refine (ratNamed_any v0 v1 b0 b1 a2 W hb0 hb1).mono fun e W' ⟨he, hb⟩ => ?_
  subst he
  have hlt0 : ∀ x ∈ p0, x.block < W.heap.size := fun x hx => hW0.lt x (by simp [hx])
  have s0 := Below.trod laidOut_yes (by kernel_rfl) (of_decide_eq_true (by kernel_rfl)) k0 hb hlt0
  have hlt1 : ∀ x ∈ p1, x.block < W.heap.size := fun x hx => hW0.lt x (by simp [hx])
  have s1 := Below.trod laidOut_yes (by kernel_rfl) (of_decide_eq_true (by kernel_rfl)) k1 hb hlt1
  exact ⟨_, rfl, _, _, _, [], _, _, hW0, trodAll_mk1 (shut_bool Try.underlying4 true), trodAll_mk3 s0 s1 (shut_int Try.underlying3 wa2), rfl, hb.frame _, fun h => by cases h⟩

theorem ratNamed_holds : Rows.RatNamedSaid :=
  OpenClaim.holds_of_wide 9 Try.f9 rfl rfl rfl rfl rfl rfl rfl ⟨rfl, rfl, rfl, rfl, rfl⟩ rfl rfl rfl rfl rfl (by kernel_rfl) Try.func9 (by kernel_rfl)
    (of_decide_eq_true (by kernel_rfl)) (by unfold Func.isWrapper; first | (rw [if_pos (by decide +kernel)]; kernel_rfl) | (rw [if_neg (by decide +kernel)]; exact ⟨rfl, rfl⟩))
    (fun os started H enc _ => ratNamed_lifted os started H enc)
end Go.Proofs.Ytnhifinfjfpoiaa
