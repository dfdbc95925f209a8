/- RatBaited holds: for whatever bytes the law answers true, and what came in reads as it read before. No condition is laid on the arguments beyond the form's own reach. -/
import Derived.Test.YtnhifinfjfpoiaaK11
import Derived.Test.YtnhifinfjfpoiaaK15
import Derived.Test.YtnhifinfjfpoiaaK18
import Derived.Test.YtnhifinfjfpoiaaK20
import Derived.Test.YtnhifinfjfpoiaaK14
import Derived.Test.YtnhifinfjfpoiaaK19
import Derived.Test.YtnhifinfjfpoiaaK21
import Derived.Test.YtnhifinfjfpoiaaK08
import Derived.Test.YtnhifinfjfpoiaaRows
import Derived.Test.YtnhifinfjfpoiaaK12
namespace Go.Proofs.Ytnhifinfjfpoiaa
open Go.RowKit
set_option linter.unusedVariables false
set_option linter.unusedSimpArgs false

theorem row_cell {W : World} {B n g c j : Nat} {l : List Int} (h : (pRow B 3 1 n (.slice (some ⟨g, 0, none⟩) n c) (intsV l)).told W) (hl : l.length = n) (hj : j < n) : W.cell? ⟨g, j, none⟩ = some (.int .i64 (nth l j)) := by
  have := World.ownsRow.cellAt h j (by omega)
  rw [this, nth_eq (by omega)]
  simp [intsV]
theorem reach_ok {c : Col} (hk : checkC c = 0) {h R : Nat} (hh : h < c.rooms.length) (hR : R < 4) : reachErr c (h : Int) (R : Int) = 0 := by
  unfold reachErr
  rw [if_pos hk, if_pos (inB_of ⟨by omega, by omega⟩), if_pos (inB_of ⟨by omega, by omega⟩)]
theorem bait_ok {c : Col} (hk : checkC c = 0) (hf : fitErr c = 0) {R : Nat} (hR : R < 4) : baitErr c (R : Int) = 0 := by
  unfold baitErr
  rw [if_pos hk, if_pos (inB_of ⟨by omega, by omega⟩), hf]
theorem reach_in_rooms {c : Col} (ok : OkCol c) {h : Nat} (hh : h < c.rooms.length) : ∀ R {x : Nat}, (reachN c h R).testBit x = true → x < c.rooms.length
  | 0, x, hx => by
    have : (pw h).testBit x = true := hx
    rw [pw_bit, beq_iff_eq] at this
    omega
  | R + 1, x, hx => by
    have n6 := ok.houses.2
    have : (reachAcc c (reachN c h R) (members (reachN c h R))).testBit x = true := hx
    rw [reachAcc_bit, Bool.or_eq_true, List.any_eq_true] at this
    rcases this with e | ⟨o, ho, e⟩
    · exact reach_in_rooms ok hh R e
    · exact near_in ok (reach_in_rooms ok hh R (mem_members.1 ho).2) (bit6 (nearC_lt c o) e) e
/-- What the law keeps in mind of memory: parts apart, and two lists that stand below a bound. -/
structure BtAt (w : World) (ps : List Part) (BB : Nat) (bv pv : Value) (Bs As : List Int) (W : World) : Prop where
  pw : PW w W ps
  hi : BB ≤ W.heap.size
  b : IsInts W BB bv Bs
  a : IsInts W BB pv As
theorem BtAt.below {w W W' : World} {ps : List Part} {BB : Nat} {bv pv : Value} {Bs As : List Int} (h : BtAt w ps BB bv pv Bs As W) (hb : Below W.heap.size W W') : BtAt w ps BB bv pv Bs As W' :=
  ⟨h.pw.below hb, Nat.le_trans h.hi hb.size, h.b.below hb h.hi, h.a.below hb h.hi⟩
theorem BtAt.same {w W : World} {ps qs : List Part} {BB : Nat} {bv pv : Value} {Bs As : List Int} (h : BtAt w ps BB bv pv Bs As W) (e : ps = qs) : BtAt w qs BB bv pv Bs As W := e ▸ h
theorem BtAt.setInt {w W : World} {ps : List Part} {BB : Nat} {bv pv : Value} {Bs As : List Int} (h : BtAt w ps BB bv pv Bs As W) (i : Nat) {b n : Nat} {f : Nat → Int} (hi : ps[i]? = some (pInt b n f)) (hb : BB ≤ b) {o : Nat} (ho : o < n) (x : Int) : BtAt w (ps.set i (pInt b n (fun j => if j = o then x else f j))) BB bv pv Bs As (W.setCell ⟨b, o, none⟩ (.int .i64 x)) := by
  have k : Below BB W (W.setCell ⟨b, o, none⟩ (.int .i64 x)) := (Below.refl _ _).setCell (p := ⟨b, o, none⟩) hb _
  exact ⟨h.pw.setInt i hi ho x, by have := h.hi; simpa using this, h.b.below k (Nat.le_refl _), h.a.below k (Nat.le_refl _)⟩
theorem BtAt.left {w W : World} {ps qs : List Part} {BB : Nat} {bv pv : Value} {Bs As : List Int} (h : BtAt w (ps ++ qs) BB bv pv Bs As W) : BtAt w ps BB bv pv Bs As W := ⟨h.pw.left, h.hi, h.b, h.a⟩

set_option maxRecDepth 100000 in
set_option maxHeartbeats 8000000 in
theorem ratBaited_any (v1 : Value) (xs1 : List Int) (w : World) (h1 : IsBytes w w.heap.size v1 xs1) :
    Calls Try.prog 11 #[v1] w fun e w' => e = .returned (.bool true) ∧ Below w.heap.size w w' := by
  have HB := Lib.hid h1
  clear h1
  go_enter Try.func11, Try.ntmps11
  go_wp2_with fail
  refine (fill_any v1 xs1 w HB.out).mono ?_
  rintro e w1 ⟨rfl, hc1, hb1, hz1⟩
  have HP1 := Lib.hid ((PW.start w).fill hc1 hb1)
  obtain ⟨p1, hp1⟩ : ∃ p1, w.heap.size = p1 := ⟨_, rfl⟩
  have hP1 := HP1.out
  rw [hp1] at hP1
  have HP1 := Lib.hid hP1
  rw [hp1]
  clear hc1 hb1 hz1 hP1 hp1
  go_wp2_with fail
  refine (made_any p1 v1 xs1 6 3 w1 (HP1.out.chute 0 rfl HB.out) (by omega) (by omega)).mono ?_
  rintro e w2 ⟨r, t, u, nv, cv, lv, fv, rooms, traps, rs, k, N, T, M, L, left, rfl, hI, hcol, hT, hL, hF, hc2, ht2, nbN, nbT, bL, Lf, rfl, hLf, hsep⟩
  have HI := Lib.hid hI
  have HP2 := Lib.hid (((HP1.out.made 0 rfl hc2 ht2 hsep).newBlk 26 #[r, t, u, nv]).newBlk 55 #[cv, .slice (some ⟨bL, 0, none⟩) rooms.length rooms.length])
  have hn0 : 0 < rooms.length := hI.made.many.1
  have hn5 : (rooms.length : Int) ≤ 6 := hI.few
  obtain ⟨ar, qr, rfl⟩ := owns_slice (hsep.at 0 rfl)
  obtain ⟨at_, qt, rfl⟩ := owns_slice (hsep.at 1 rfl)
  obtain ⟨au, qu, rfl⟩ := owns_slice (hsep.at 2 rfl)
  obtain ⟨⟨fsN, hoN, qx1⟩, qx2⟩ : (pRows w1.heap.size rooms.length nv nbN N).told w2 := hsep.at 3 rfl
  obtain ⟨⟨fsT, hoT, qx3⟩, qx4⟩ : (pRows w1.heap.size rooms.length cv nbT T).told w2 := hsep.at 4 rfl
  clear qx1 qx2 qx3 qx4
  obtain ⟨an, qn, rfl⟩ := owns_slice hoN
  obtain ⟨ac, qc, rfl⟩ := owns_slice hoT
  obtain ⟨al, ql, rfl⟩ := owns_slice (hsep.at 6 rfl)
  have HC2 := Lib.hid hcol
  clear hI hcol hT hL hF hc2 ht2 hLf hsep hoN hoT
  go_wp2_with fail
  obtain ⟨W3, hW3⟩ : ∃ W3, (w2.alloc (.cells #[.slice ar rooms.length qr, .slice at_ rooms.length qt, .slice au rs.length qu, .slice an N.length qn] 26)).alloc (.cells #[.slice ac T.length qc, .slice (some ⟨bL, 0, none⟩) rooms.length rooms.length] 55) = W3 := ⟨_, rfl⟩
  obtain ⟨b5, hb5⟩ : ∃ b5, w2.heap.size = b5 := ⟨_, rfl⟩
  have hP2 := HP2.out
  have hcol3 : ColAt W3 W3.heap.size (.slice ar rooms.length qr) (.slice at_ rooms.length qt) (.slice au rs.length qu) (.slice an N.length qn) ⟨rooms, traps, rs, N⟩ := by
    rw [← hW3]
    exact (HC2.out.below (((Below.refl _ _).alloc (Nat.le_refl _) _).alloc (by simp) _) (Nat.le_refl _)).mono (by simp; omega)
  rw [hW3, hb5] at hP2
  rw [hW3]
  have HP3 := Lib.hid hP2
  have HC3 := Lib.hid hcol3
  have hb6 : ∃ b6, w2.heap.size + 1 = b6 := ⟨_, rfl⟩
  obtain ⟨b6, hb6⟩ := hb6
  rw [hb5] at hb6
  rw [hb5]
  (try rw [hb6])
  clear hW3 hP2 hcol3 HC2 HP2 hb5
  have HFE := Lib.hid (HI.out.fitErr (by omega))
  have HCK := Lib.hid (HI.out.check (by omega))
  have hP := HP3.out.pick (ps' := madeBox b5 w1.heap.size (.slice ar rooms.length qr) (.slice at_ rooms.length qt) (.slice au rs.length qu) (.slice an N.length qn) rooms.length rooms traps rs nbN N) [8, 1, 2, 3, 4] (by decide) rfl
  obtain ⟨PS, hPS⟩ : ∃ PS, madeBox b5 w1.heap.size (.slice ar rooms.length qr) (.slice at_ rooms.length qt) (.slice au rs.length qu) (.slice an N.length qn) rooms.length rooms traps rs nbN N = PS := ⟨_, rfl⟩
  have hcc : ∀ W, PW w W (madeBox b5 w1.heap.size (.slice ar rooms.length qr) (.slice at_ rooms.length qt) (.slice au rs.length qu) (.slice an N.length qn) rooms.length rooms traps rs nbN N) → ColAt W W.heap.size (.slice ar rooms.length qr) (.slice at_ rooms.length qt) (.slice au rs.length qu) (.slice an N.length qn) ⟨rooms, traps, rs, N⟩ := fun W H => made_read HCK.out rfl (H.at 1 rfl) (H.at 2 rfl) (H.at 3 rfl) (H.at 4 rfl)
  have e0 : PS[0]? = some (pBlk b5 26 #[.slice ar rooms.length qr, .slice at_ rooms.length qt, .slice au rs.length qu, .slice an N.length qn]) := by rw [← hPS]; rfl
  have hlen : PS.length = 5 := by rw [← hPS]; rfl
  rw [hPS] at hP hcc
  have hfe := HFE.out
  have hck := HCK.out
  obtain ⟨C, hCe⟩ : ∃ C : Col, (⟨rooms, traps, rs, N⟩ : Col) = C := ⟨_, rfl⟩
  have hcl : C.rooms.length = rooms.length := by rw [← hCe]
  rw [hCe] at hfe hck hcc
  have HFC := Lib.hid hfe
  have HKC := Lib.hid hck
  have HCC := Lib.hid hcc
  have HCL := Lib.hid hcl
  have HE0 := Lib.hid e0
  have HLEN := Lib.hid hlen
  have HP := Lib.hid hP
  have HAL : Hid ((afterC C).length = rooms.length) := (afterTo_len _ _).trans hcl
  have HEO : Hid (∀ k x qs, PS[k]? = some x → (PS ++ qs)[k]? = some x) := fun k x qs h => by
    rw [List.getElem?_append_left (List.getElem?_eq_some_iff.1 h).1]; exact h
  have HX : Hid (∀ qs k x, qs[k]? = some x → (PS ++ qs)[5 + k]? = some x) := fun qs k x h => by rw [List.getElem?_append_right (by rw [HLEN.out]; omega), HLEN.out, show 5 + k - 5 = k by omega]; exact h
  have HS7 : Hid (∀ a b c d e y, (PS ++ [a, b, c, d, e]).set 7 y = PS ++ [a, b, y, d, e]) := fun a b c d e y => by rw [List.set_append_right _ _ (by rw [HLEN.out]; omega), HLEN.out]; rfl
  clear hP hPS hcc e0 hlen hfe hck hCe hcl HFE HCK HI HP3 HP1 HC3 hb6
  refine (After_own C _ _ _ _ W3 (HCC.out _ HP.out) HFC.out).mono ?_
  rintro e w4 ⟨av, rfl, hs4, hb4⟩
  rw [HCL.out] at hs4
  obtain ⟨ga, ca, rfl, _, _⟩ := int_row_cells hs4 HAL.out hn0
  obtain ⟨BA, hBA⟩ : ∃ BA, W3.heap.size = BA := ⟨_, rfl⟩
  have h4 := HP.out.push (pRow W3.heap.size 3 1 rooms.length (.slice (some ⟨ga, 0, none⟩) rooms.length ca) (intsV (afterC C))) hb4 hs4 (fun k hk => hs4.lt k hk)
  rw [hBA] at h4
  have H4 := Lib.hid (h4.newBlk 22 #[.slice (some ⟨ga, 0, none⟩) rooms.length ca])
  clear hb4 hs4 h4 hBA HP
  go_upto_region 3 with (fail)
  generalize Value.tuple #[Value.agg _, Value.agg _, _] = q27
  obtain ⟨W4, hW4⟩ : ∃ W4, w4.alloc (.cells #[.slice (some ⟨ga, 0, none⟩) rooms.length ca] 22) = W4 := ⟨_, rfl⟩
  obtain ⟨b6, hb6⟩ : ∃ b6, w4.heap.size = b6 := ⟨_, rfl⟩
  have h4 := H4.out
  rw [hW4, hb6] at h4
  rw [hW4, hb6]
  have H4 := Lib.hid (h4.same (ps' := PS ++ [pRow BA 3 1 rooms.length (.slice (some ⟨ga, 0, none⟩) rooms.length ca) (intsV (afterC C)), pBlk b6 22 #[.slice (some ⟨ga, 0, none⟩) rooms.length ca]]) (by simp))
  clear hW4 hb6 h4
  have k0 := (four_at (H4.out.at 0 (HEO.out 0 _ _ HE0.out))).1
  have k6 := (cell_of_row _ _ 0 _ _ _ (H4.out.at 6 (HX.out _ 1 _ rfl))).trans rfl
  go_wp2_with fail
  clear k0 k6
  go_loopw [8, 52] (fun lv i wr => ∃ R L : Nat, R ≤ 4 ∧ i = .int .i64 R ∧ lv = .int .i64 L ∧ Hid ((R < 4 → (baitsC C R).length ≤ L) ∧ PW w wr (PS ++ [pRow BA 3 1 rooms.length (.slice (some ⟨ga, 0, none⟩) rooms.length ca) (intsV (afterC C)), pBlk b6 22 #[.slice (some ⟨ga, 0, none⟩) rooms.length ca]]))) (fun _ i _ => 4 - (intOf i).toNat)
  case atStart => exact ⟨0, rooms.length, by omega, rfl, rfl, fun _ => by rw [← HCL.out]; exact baits_houses (okCol_of HKC.out) 0, H4.out⟩
  case round =>
    obtain ⟨R, L, hR4, rfl, rfl, HR⟩ := hrel
    by_cases hR : R < 4
    · have hRi : (R : Int) < 4 := by omega
      obtain ⟨s, t, hlaw⟩ := btd_law (okCol_of HKC.out) R
      have HLW := Lib.hid hlaw
      have hbl := HR.out.1 hR
      rw [hlaw.bait, natsI_len] at hbl
      have hal := hlaw.few
      obtain ⟨lb, hlb⟩ : ∃ lb, (members s).length = lb := ⟨_, rfl⟩
      obtain ⟨la, hla⟩ : ∃ la, (members t).length = la := ⟨_, rfl⟩
      have hlb6 : lb ≤ 6 := by rw [← hlb]; exact members_len _
      rw [hlb] at hbl hal
      rw [hla] at hal
      have HLA := Lib.hid (And.intro hlb hla)
      have d1 : decide (L < lb) = false := decide_eq_false (by omega)
      have d2 : decide (lb < la) = false := decide_eq_false (by omega)
      have HBE := Lib.hid (bait_ok HKC.out HFC.out hR)
      clear hlaw hlb hla H4
      obtain ⟨k0, k1, k2, k3⟩ := four_at (HR.out.2.at 0 (HEO.out 0 _ _ HE0.out))
      go_wp2_with fail
      refine (Baits_ok C _ _ _ _ R wr (HCC.out _ HR.out.2.left) HBE.out).mono ?_
      rintro e w5 ⟨bv, rfl, hv5, hb5⟩
      rw [Int.toNat_natCast, HLW.out.bait] at hv5
      obtain ⟨ba, bq, rfl, _, _, _⟩ := hv5.open
      rw [natsI_len, HLA.out.1] at hv5 ⊢
      have H5 := Lib.hid (And.intro (HR.out.2.below hb5) hv5)
      clear hv5 hb5 k0 k1 k2 k3
      obtain ⟨k0, k1, k2, k3⟩ := four_at (H5.out.1.at 0 (HEO.out 0 _ _ HE0.out))
      go_wp2_with fail
      refine (Apart_ok C _ _ _ _ R w5 (HCC.out _ H5.out.1.left) HBE.out).mono ?_
      rintro e w6 ⟨pv, rfl, hv6, hb6⟩
      rw [Int.toNat_natCast, HLW.out.apart] at hv6
      obtain ⟨pa, pq, rfl, _, _, _⟩ := hv6.open
      rw [natsI_len, HLA.out.2] at hv6 ⊢
      have h6 := H5.out.1.below hb6
      have k6b := (H5.out.2.below hb6 (Nat.le_refl _)).mono hb6.size
      have h7 := (h6.newInts rooms.length).newBlk 22 #[.slice (some ⟨w6.heap.size, 0, none⟩) rooms.length rooms.length]
      have hbt : Below w6.heap.size w6 ((w6.alloc (.cells (intsV (List.replicate rooms.length 0)).toArray 3)).alloc (.cells #[.slice (some ⟨w6.heap.size, 0, none⟩) rooms.length rooms.length] 22)) := ((Below.refl _ _).alloc (Nat.le_refl _) _).alloc (by simp) _
      have H7 := Lib.hid (And.intro h7 (And.intro hbt.size (And.intro (k6b.below hbt (Nat.le_refl _)) (hv6.below hbt (Nat.le_refl _)))))
      have hmk := make_intsN rooms.length (by omega)
      clear hv6 hb6 k0 k1 k2 k3 H5 k6b h7 hbt
      have k0 := (four_at (h6.at 0 (HEO.out 0 _ _ HE0.out))).1
      clear h6
      go_upto_region 15 with (fail)
      clear hmk k0
      obtain ⟨W7, hW7⟩ : ∃ W7, (w6.alloc (.cells (intsV (List.replicate rooms.length 0)).toArray 3)).alloc (.cells #[.slice (some ⟨w6.heap.size, 0, none⟩) rooms.length rooms.length] 22) = W7 := ⟨_, rfl⟩
      have hs14 : (w6.alloc (.cells (intsV (List.replicate rooms.length 0)).toArray 3)).heap.size = w6.heap.size + 1 := by simp
      obtain ⟨b14, hb14⟩ : ∃ b14, w6.heap.size + 1 = b14 := ⟨_, rfl⟩
      obtain ⟨tb, htb⟩ : ∃ tb, w6.heap.size = tb := ⟨_, rfl⟩
      have h7 := H7.out
      rw [hW7, hs14, hb14, htb] at h7
      rw [hW7, hb14, htb]
      have ht0 : timesN C R s 0 = fun _ => 0 := by funext o; rfl
      have H7 : Hid (BtAt w (PS ++ [pRow BA 3 1 rooms.length (.slice (some ⟨ga, 0, none⟩) rooms.length ca) (intsV (afterC C)), pBlk b6 22 #[.slice (some ⟨ga, 0, none⟩) rooms.length ca], pInt tb rooms.length (timesN C R s 0), pBlk b14 22 #[.slice (some ⟨tb, 0, none⟩) rooms.length rooms.length]]) tb (.slice ba lb bq) (.slice pa la pq) (natsI (members s)) (natsI (members t)) W7) := ⟨h7.1.same (by rw [ht0]; simp), h7.2.1, h7.2.2.1, h7.2.2.2⟩
      clear hW7 hs14 hb14 htb h7 HR
      have k0 := (four_at (H7.out.pw.at 0 (HEO.out 0 _ _ HE0.out))).1
      go_wp2_with fail
      clear k0
      go_loopw [95] (fun i wr => ∃ h : Nat, h ≤ rooms.length ∧ i = .int .i64 h ∧ Hid (BtAt w (PS ++ [pRow BA 3 1 rooms.length (.slice (some ⟨ga, 0, none⟩) rooms.length ca) (intsV (afterC C)), pBlk b6 22 #[.slice (some ⟨ga, 0, none⟩) rooms.length ca], pInt tb rooms.length (timesN C R s h), pBlk b14 22 #[.slice (some ⟨tb, 0, none⟩) rooms.length rooms.length]]) tb (.slice ba lb bq) (.slice pa la pq) (natsI (members s)) (natsI (members t)) wr)) (fun i _ => rooms.length - (intOf i).toNat)
      case atStart => exact ⟨0, Nat.zero_le _, rfl, H7⟩
      case round =>
        obtain ⟨h, hh, rfl, HR⟩ := hrel
        by_cases hlt : h < rooms.length
        · have hhi : (h : Int) < rooms.length := by omega
          obtain ⟨k0, k1, k2, k3⟩ := four_at (HR.out.pw.at 0 (HEO.out 0 _ _ HE0.out))
          have HRE := Lib.hid (reach_ok HKC.out (by rw [HCL.out]; exact hlt) hR)
          have HRL : Hid (reachN C h R < 64) := reachN_lt C h (by omega) R
          obtain ⟨ml, hml⟩ : ∃ ml, members (reachN C h R) = ml := ⟨_, rfl⟩
          have HML := Lib.hid hml
          have hmh : h ∈ ml := by rw [← hml]; exact mem_members.2 ⟨by omega, reach_self C h R⟩
          have hm0 : 0 < ml.length := List.length_pos_of_mem hmh
          have hml6 : ml.length ≤ 6 := by rw [← hml]; exact members_len _
          have hmn : ∀ o, o ∈ ml → o < rooms.length := fun o ho => by
            rw [← hml] at ho
            rw [← HCL.out]
            exact reach_in_rooms (okCol_of HKC.out) (by rw [HCL.out]; exact hlt) R (mem_members.1 ho).2
          have HMN := Lib.hid hmn
          clear hml hmh hmn H7
          go_wp2_with fail
          refine (Reaches_own C _ _ _ _ h R wr (HCC.out _ HR.out.pw.left) HRE.out).mono ?_
          rintro e w8 ⟨lv, rfl, hs8, hb8⟩
          rw [Int.toNat_natCast, Int.toNat_natCast, HML.out] at hs8
          obtain ⟨gl, cl, rfl, _, _⟩ := int_row_cells hs8 (natsI_len _) hm0
          obtain ⟨BL, hBL⟩ : ∃ BL, wr.heap.size = BL := ⟨_, rfl⟩
          have h8 := HR.out.pw.push (pRow wr.heap.size 3 1 ml.length (.slice (some ⟨gl, 0, none⟩) ml.length cl) (intsV (natsI ml))) hb8 hs8 (fun k hk => hs8.lt k hk)
          rw [hBL] at h8
          have b8 := HR.out.below hb8
          have H8 : Hid (BtAt w (PS ++ [pRow BA 3 1 rooms.length (.slice (some ⟨ga, 0, none⟩) rooms.length ca) (intsV (afterC C)), pBlk b6 22 #[.slice (some ⟨ga, 0, none⟩) rooms.length ca], pInt tb rooms.length (timesTo C R s h ml 0), pBlk b14 22 #[.slice (some ⟨tb, 0, none⟩) rooms.length rooms.length], pRow BL 3 1 ml.length (.slice (some ⟨gl, 0, none⟩) ml.length cl) (intsV (natsI ml))]) tb (.slice ba lb bq) (.slice pa la pq) (natsI (members s)) (natsI (members t)) w8) := ⟨h8.same (by rw [show timesTo C R s h ml 0 = timesN C R s h from funext (timesTo_zero C R s h ml)]; simp), b8.hi, b8.b, b8.a⟩
          have HI8 : Hid (IsInts w8 w8.heap.size (.slice (some ⟨gl, 0, none⟩) ml.length cl) (natsI ml)) := by
            have := nums_of_owns (b := BL) (by rw [natsI_len, ← hBL]; exact hs8) (natsI_i64 (fun x hx => by have := HMN.out x hx; omega)) (by rw [natsI_len]; have := members_len (reachN C h R); rw [HML.out] at this; omega)
            exact this
          clear hs8 hb8 hBL h8 b8 k0 k1 k2 k3 HR
          go_wp2_with fail
          refine (contains_any (.slice (some ⟨gl, 0, none⟩) ml.length cl) (natsI ml) h w8 HI8.out).mono ?_
          rintro e w9 ⟨rfl, rfl⟩
          rw [← HML.out, contains_bit (by omega), reach_self, HML.out]
          go_wp2_with fail
          clear HI8
          obtain ⟨wo1, rfl⟩ : ∃ wo1 : World, wo1 = w8 := ⟨_, rfl⟩
          go_loopw [18, 115] (fun mv i wq => ∃ (k : Nat) (M : Int), k ≤ ml.length ∧ i = .int .i64 k ∧ mv = .int .i64 M ∧ Hid (MetIs t ml k M ∧ BtAt w (PS ++ [pRow BA 3 1 rooms.length (.slice (some ⟨ga, 0, none⟩) rooms.length ca) (intsV (afterC C)), pBlk b6 22 #[.slice (some ⟨ga, 0, none⟩) rooms.length ca], pInt tb rooms.length (timesTo C R s h ml k), pBlk b14 22 #[.slice (some ⟨tb, 0, none⟩) rooms.length rooms.length], pRow BL 3 1 ml.length (.slice (some ⟨gl, 0, none⟩) ml.length cl) (intsV (natsI ml))]) tb (.slice ba lb bq) (.slice pa la pq) (natsI (members s)) (natsI (members t)) wq)) (fun _ i _ => ml.length - (intOf i).toNat)
          case atStart => exact ⟨0, 0, Nat.zero_le _, rfl, rfl, MetIs.zero t ml, H8.out⟩
          case round =>
            obtain ⟨k, M, hk, rfl, rfl, HQ⟩ := hrel
            by_cases hkl : k < ml.length
            · have hki : (k : Int) < ml.length := by omega
              obtain ⟨o, ho⟩ : ∃ o, ml[k] = o := ⟨_, rfl⟩
              have hmo : o ∈ ml := by rw [← ho]; exact List.getElem_mem hkl
              have hon := HMN.out o hmo
              have hoi : (o : Int) < rooms.length := by omega
              have c1 := row_cell (HQ.out.2.pw.at 9 (HX.out _ 4 _ rfl)) (natsI_len _) hkl
              have hno : nth (natsI ml) k = (o : Int) := by
                rw [← ho]
                unfold natsI nth
                simp [List.getD_eq_getElem?_getD, hkl]
              rw [hno] at c1
              have c2 := (cell_of_row _ _ 0 _ _ _ (HQ.out.2.pw.at 8 (HX.out _ 3 _ rfl))).trans rfl
              have hnd : ml.Nodup := by rw [← HML.out]; exact members_nodup _
              have hbnd := timesN_bound C R s h o
              have HSU := Lib.hid (fun x => timesTo_succ (c := C) (R := R) (s := s) (h := h) hnd hkl x)
              have HND := Lib.hid hnd
              have HHO := Lib.hid ho
              have HOX := Lib.hid hmo
              have HIB : Hid (IsInts wr wr.heap.size (.slice ba lb bq) (natsI (members s))) := HQ.out.2.b.mono HQ.out.2.hi
              clear hno ho hnd H8 hmo
              go_wp2_with fail
              refine (contains_any (.slice ba lb bq) (natsI (members s)) h wr HIB.out).mono ?_
              rintro e w9 ⟨rfl, rfl⟩
              rw [contains_bit (by omega)]
              clear HIB
              cases hsb : s.testBit h
              · have HIA : Hid (IsInts wr wr.heap.size (.slice pa la pq) (natsI (members t))) := HQ.out.2.a.mono HQ.out.2.hi
                have hT : timesTo C R s h ml k = timesTo C R s h ml (k + 1) := funext fun x => by rw [HSU.out x, hsb, if_neg (fun q => by cases q.1)]
                have HT := Lib.hid hT
                clear hT hsb
                go_wp2_with fail
                refine (contains_any (.slice pa la pq) (natsI (members t)) o wr HIA.out).mono ?_
                rintro e w10 ⟨rfl, rfl⟩
                rw [contains_bit (by omega)]
                cases htb : t.testBit o
                · have HM := Lib.hid (HQ.out.1.no hkl (by rw [HHO.out]; exact htb))
                  clear htb
                  go_wp2_with fail
                  go_roundw
                  case rel => exact ⟨k + 1, M, by omega, by go_num, rfl, HM.out, HQ.out.2.same (by rw [HT.out])⟩
                  case measure => simp [intOf]; omega
                · obtain ⟨hM0, hMm⟩ := HQ.out.1.yes HND.out (fun x y hx hy h1 h2 => by
                    rw [← HML.out] at hx hy
                    exact HLW.out.one h (by rw [HCL.out]; exact hlt) x y h1 (mem_members.1 hx).2 h2 (mem_members.1 hy).2) hkl (by rw [HHO.out]; exact htb)
                  subst hM0
                  have HM := Lib.hid hMm
                  clear htb hMm
                  go_wp2_with fail
                  go_roundw
                  case rel => exact ⟨k + 1, 1, by omega, by go_num, by go_num, HM.out, HQ.out.2.same (by rw [HT.out])⟩
                  case measure => simp [intOf]; omega
              · have kI : IntBlk wr tb rooms.length (timesTo C R s h ml k) := HQ.out.2.pw.at 7 (HX.out _ 2 _ rfl)
                have z0 := kI.cell hon
                have f0 := kI.free o
                obtain ⟨X, hX⟩ : ∃ X, timesTo C R s h ml k o = X := ⟨_, rfl⟩
                have hXb : 0 ≤ X ∧ X ≤ 10 := by
                  rw [← hX]
                  unfold timesTo
                  have := ind_nonneg (s.testBit h = true ∧ o ∈ ml.take k)
                  have := ind_le (s.testBit h = true ∧ o ∈ ml.take k)
                  omega
                have hws : IntKind.i64.wrap (X + 1) = X + 1 := by rw [IntKind.wrap_i64]; omega
                rw [hX] at z0
                have hT : (fun j => if j = o then X + 1 else timesTo C R s h ml k j) = timesTo C R s h ml (k + 1) := funext fun x => by
                  rw [HSU.out x, HHO.out]
                  by_cases q : x = o
                  · rw [if_pos q, if_pos ⟨hsb, q⟩, q, hX]
                  · rw [if_neg q, if_neg (fun z => q z.2)]
                have hs := HQ.out.2.setInt 7 (HX.out _ 2 _ rfl) (Nat.le_refl _) hon (X + 1)
                rw [hT, HS7.out] at hs
                have HS := Lib.hid hs
                clear kI hX hXb hT hs hsb
                go_upto_region 29 with (fail)
                obtain ⟨W9, hW9⟩ : ∃ W9, wr.setCell ⟨tb, o, none⟩ (.int .i64 (X + 1)) = W9 := ⟨_, rfl⟩
                rw [hW9] at HS ⊢
                have HM0 := Lib.hid HQ.out.1
                have HIA : Hid (IsInts W9 W9.heap.size (.slice pa la pq) (natsI (members t))) := HS.out.a.mono HS.out.hi
                clear hW9 z0 f0 c1 c2 HQ
                go_wp2_with fail
                refine (contains_any (.slice pa la pq) (natsI (members t)) o W9 HIA.out).mono ?_
                rintro e w10 ⟨rfl, rfl⟩
                rw [contains_bit (by omega)]
                cases htb : t.testBit o
                · have HM := Lib.hid (HM0.out.no hkl (by rw [HHO.out]; exact htb))
                  clear htb
                  go_wp2_with fail
                  go_roundw
                  case rel => exact ⟨k + 1, M, by omega, by go_num, rfl, HM.out, HS.out⟩
                  case measure => simp [intOf]; omega
                · obtain ⟨hM0, hMm⟩ := HM0.out.yes HND.out (fun x y hx hy h1 h2 => by
                    rw [← HML.out] at hx hy
                    exact HLW.out.one h (by rw [HCL.out]; exact hlt) x y h1 (mem_members.1 hx).2 h2 (mem_members.1 hy).2) hkl (by rw [HHO.out]; exact htb)
                  subst hM0
                  have HM := Lib.hid hMm
                  clear htb hMm
                  go_wp2_with fail
                  go_roundw
                  case rel => exact ⟨k + 1, 1, by omega, by go_num, by go_num, HM.out, HS.out⟩
                  case measure => simp [intOf]; omega
            · obtain rfl : k = ml.length := by omega
              obtain ⟨hm0', hm1'⟩ := HQ.out.1.le
              have hn1 : ¬ (1 : Int) < M := by omega
              have hT : timesTo C R s h ml ml.length = timesN C R s (h + 1) := funext fun x => by
                rw [← HML.out]; exact timesTo_all HRL.out x
              have hs := HQ.out.2
              rw [hT] at hs
              have hs' := hs.same (qs := (PS ++ [pRow BA 3 1 rooms.length (.slice (some ⟨ga, 0, none⟩) rooms.length ca) (intsV (afterC C)), pBlk b6 22 #[.slice (some ⟨ga, 0, none⟩) rooms.length ca], pInt tb rooms.length (timesN C R s (h + 1)), pBlk b14 22 #[.slice (some ⟨tb, 0, none⟩) rooms.length rooms.length]]) ++ [pRow BL 3 1 ml.length (.slice (some ⟨gl, 0, none⟩) ml.length cl) (intsV (natsI ml))]) (by simp)
              have HS := Lib.hid hs'.left
              clear hT hs hs' HQ H8
              go_wp2_with fail
              go_roundw
              case rel => first | exact ⟨h + 1, by omega, by go_num, HS⟩ | (repeat refine Exists.intro _ ?_); exact ⟨⟨h + 1, by omega, rfl, HS⟩, rfl, rfl, rfl, rfl, rfl, rfl, rfl⟩
              case measure => simp [intOf]; omega
        · obtain rfl : h = rooms.length := by omega
          have HN := Lib.hid HR.out
          have k6 := (cell_of_row _ _ 0 _ _ _ (HR.out.pw.at 6 (HX.out _ 1 _ rfl))).trans rfl
          clear HR H7
          go_wp2_with fail
          clear k6
          obtain ⟨wo1, rfl⟩ : ∃ wo1 : World, wo1 = wr := ⟨_, rfl⟩
          go_loopw [147] (fun i wq => ∃ j : Nat, j ≤ rooms.length ∧ i = .int .i64 j ∧ Hid (BtAt w (PS ++ [pRow BA 3 1 rooms.length (.slice (some ⟨ga, 0, none⟩) rooms.length ca) (intsV (afterC C)), pBlk b6 22 #[.slice (some ⟨ga, 0, none⟩) rooms.length ca], pInt tb rooms.length (timesN C R s rooms.length), pBlk b14 22 #[.slice (some ⟨tb, 0, none⟩) rooms.length rooms.length]]) tb (.slice ba lb bq) (.slice pa la pq) (natsI (members s)) (natsI (members t)) wq)) (fun i _ => rooms.length - (intOf i).toNat)
          case atStart => exact ⟨0, Nat.zero_le _, rfl, HN⟩
          case round =>
            obtain ⟨j, hj, rfl, HQ⟩ := hrel
            by_cases hjn : j < rooms.length
            · have hji : (j : Int) < rooms.length := by omega
              have c1 := row_cell (HQ.out.pw.at 5 (HX.out _ 0 _ rfl)) HAL.out hjn
              have c2 := (cell_of_row _ _ 0 _ _ _ (HQ.out.pw.at 8 (HX.out _ 3 _ rfl))).trans rfl
              have c3 := IntBlk.cell (HQ.out.pw.at 7 (HX.out _ 2 _ rfl)) hjn
              have hjC : j < C.rooms.length := by rw [HCL.out]; exact hjn
              have hab := after_bound HFC.out hjC
              obtain ⟨x, hx⟩ : ∃ x, nth (afterC C) j = x := ⟨_, rfl⟩
              obtain ⟨y, hy⟩ : ∃ y, timesN C R s rooms.length j = y := ⟨_, rfl⟩
              have hcv := HLW.out.cover j hjC
              have hsm := HLW.out.some j hjC
              have htn := HLW.out.tIn j
              rw [hx] at c1 hab hcv hsm htn
              rw [HCL.out, hy] at hcv
              rw [HLA.out.2] at hsm
              rw [hy] at c3
              have HT := Lib.hid htn
              clear hx hy htn HN
              by_cases hxp : 0 < x
              · have q1 := hcv hxp
                have q2 := hsm hxp
                have q3 : ¬ y = 0 := by omega
                have q4 : ¬ x = 0 := by omega
                have q5 : ¬ (la : Int) = 0 := by omega
                have q6 : ¬ la = 0 := by omega
                have p1 : (y == 0) = false := beq_eq_false_iff_ne.2 q3
                have p2 : (x == 0) = false := beq_eq_false_iff_ne.2 q4
                have p3 : ((la : Int) == 0) = false := beq_eq_false_iff_ne.2 q5
                have p4 : decide (0 < x) = true := decide_eq_true hxp
                clear hcv hsm
                go_wp2_with fail
                go_roundw
                case rel => exact ⟨j + 1, by omega, by go_num, HQ⟩
                case measure => simp [intOf]; omega
              · obtain rfl : x = 0 := by omega
                have HIA : Hid (IsInts wr wr.heap.size (.slice pa la pq) (natsI (members t))) := HQ.out.a.mono HQ.out.hi
                have hnt : t.testBit j = false := by
                  cases q : t.testBit j
                  · rfl
                  · have := HT.out q; omega
                clear hcv hsm hxp hab
                go_wp2_with fail
                refine (contains_any (.slice pa la pq) (natsI (members t)) j wr HIA.out).mono ?_
                rintro e w10 ⟨rfl, rfl⟩
                rw [contains_bit (by omega), hnt]
                go_wp2_with fail
                go_roundw
                case rel => first | exact ⟨j + 1, by omega, by go_num, HQ⟩ | (repeat refine Exists.intro _ ?_); exact ⟨⟨j + 1, by omega, rfl, HQ⟩, rfl⟩
                case measure => simp [intOf]; omega
            · obtain rfl : j = rooms.length := by omega
              clear HN
              go_wp2_with fail
              obtain ⟨wo2, rfl⟩ : ∃ wo2 : World, wo2 = wr := ⟨_, rfl⟩
              go_loopw [182] (fun i wq => ∃ j : Nat, j ≤ lb ∧ i = .int .i64 j ∧ Hid (BtAt w (PS ++ [pRow BA 3 1 rooms.length (.slice (some ⟨ga, 0, none⟩) rooms.length ca) (intsV (afterC C)), pBlk b6 22 #[.slice (some ⟨ga, 0, none⟩) rooms.length ca], pInt tb rooms.length (timesN C R s rooms.length), pBlk b14 22 #[.slice (some ⟨tb, 0, none⟩) rooms.length rooms.length]]) tb (.slice ba lb bq) (.slice pa la pq) (natsI (members s)) (natsI (members t)) wq)) (fun i _ => lb - (intOf i).toNat)
              case atStart => exact ⟨0, Nat.zero_le _, rfl, HQ⟩
              case round =>
                obtain ⟨j, hj, rfl, HB2⟩ := hrel
                by_cases hjl : j < lb
                · have hji : (j : Int) < lb := by omega
                  have hjm : j < (members s).length := by rw [HLA.out.1]; exact hjl
                  obtain ⟨b, hb⟩ : ∃ b, (members s)[j] = b := ⟨_, rfl⟩
                  have hbs : s.testBit b = true := by rw [← hb]; exact (mem_members.1 (List.getElem_mem hjm)).2
                  have hbC := HLW.out.sIn b hbs
                  obtain ⟨xb, yb, eb, _, _, fb⟩ := HB2.out.b.open
                  obtain ⟨bb, ob, e9, hbb, cb⟩ := fb j (by rw [natsI_len]; exact hjm)
                  have e10 : ba = xb := by injection eb
                  subst e10
                  subst e9
                  have hnb : nth (natsI (members s)) j = (b : Int) := by
                    rw [← hb]
                    unfold natsI nth
                    simp [List.getD_eq_getElem?_getD, hjm]
                  rw [hnb] at cb
                  obtain ⟨k0, k1, k2, k3⟩ := four_at (HB2.out.pw.at 0 (HEO.out 0 _ _ HE0.out))
                  have HRE := Lib.hid (reach_ok HKC.out hbC hR)
                  have HBS := Lib.hid (And.intro hbs hbC)
                  clear fb eb hnb hb hbs hbC hjm HQ
                  go_wp2_with fail
                  refine (Reaches_good C _ _ _ _ b R wr (HCC.out _ HB2.out.pw.left) HRE.out).mono ?_
                  rintro e w11 ⟨lv, rfl, hl11, hb11⟩
                  rw [Int.toNat_natCast, Int.toNat_natCast] at hl11
                  have HL := Lib.hid hl11
                  have HB3 := Lib.hid (HB2.out.below hb11)
                  clear hl11 hb11 k0 k1 k2 k3 cb
                  go_wp2_with fail
                  have c6 := (cell_of_row _ _ 0 _ _ _ (HB3.out.pw.at 6 (HX.out _ 1 _ rfl))).trans rfl
                  have c14 := (cell_of_row _ _ 0 _ _ _ (HB3.out.pw.at 8 (HX.out _ 3 _ rfl))).trans rfl
                  refine (btd_any b6 b14 ga tb rooms.length ca rooms.length (afterC C) (timesN C R s rooms.length) lv (members (reachN C b R)) w11 HL.out (fun o ho => by rw [← HCL.out]; exact reach_in_rooms (okCol_of HKC.out) HBS.out.2 R (mem_members.1 ho).2)
                    ⟨(HB3.out.pw.ge 6 (HX.out _ 1 _ rfl) (k := b6) rfl).2, (HB3.out.pw.ge 5 (HX.out _ 0 _ rfl) (k := ga) rfl).2⟩ ⟨(HB3.out.pw.ge 8 (HX.out _ 3 _ rfl) (k := b14) rfl).2, (HB3.out.pw.ge 7 (HX.out _ 2 _ rfl) (k := tb) rfl).2⟩ c6 c14
                    (fun o ho => row_cell (HB3.out.pw.at 5 (HX.out _ 0 _ rfl)) HAL.out ho) (fun o ho => IntBlk.cell (HB3.out.pw.at 7 (HX.out _ 2 _ rfl)) ho)).mono ?_
                  rintro e w12 ⟨rfl, hb12⟩
                  have hans : anyB (fun i => decide (0 < nth (afterC C) ((members (reachN C b R)).getD i 0)) && decide (timesN C R s rooms.length ((members (reachN C b R)).getD i 0) = 1)) (members (reachN C b R)).length = true := by
                    obtain ⟨o, o1, o2, o3, o4⟩ := HLW.out.alone b HBS.out.1
                    have hrl : reachN C b R < 64 := reachN_lt C b (by have := HBS.out.2; have := (okCol_of HKC.out).houses.2; omega) R
                    obtain ⟨i, hi, ei⟩ := List.getElem_of_mem (mem_members.2 ⟨bit6 hrl o2, o2⟩)
                    refine (anyB_ex _ _).2 ⟨i, hi, ?_⟩
                    rw [List.getD_eq_getElem?_getD, List.getElem?_eq_getElem hi]
                    rw [HCL.out] at o4
                    simp [ei, o3, o4]
                  rw [hans]
                  have HB4 := Lib.hid (HB3.out.below hb12)
                  clear hans hb12 c6 c14 HB3 HL
                  go_wp2_with fail
                  go_roundw
                  case rel => first | exact ⟨j + 1, by omega, by go_num, HB4⟩ | (repeat refine Exists.intro _ ?_); exact ⟨⟨j + 1, by omega, rfl, HB4⟩, rfl⟩
                  case measure => simp [intOf]; omega
                · obtain rfl : j = lb := by omega
                  have hlast : R + 1 < 4 → (baitsC C (R + 1)).length ≤ j := fun _ => by
                    have := baits_far (okCol_of HKC.out) R
                    rw [HLW.out.bait, natsI_len, HLA.out.1] at this
                    exact this
                  have HP9 := Lib.hid (And.intro hlast ((HB2.out.pw.same (ps' := (PS ++ [pRow BA 3 1 rooms.length (.slice (some ⟨ga, 0, none⟩) rooms.length ca) (intsV (afterC C)), pBlk b6 22 #[.slice (some ⟨ga, 0, none⟩) rooms.length ca]]) ++ [pInt tb rooms.length (timesN C R s rooms.length), pBlk b14 22 #[.slice (some ⟨tb, 0, none⟩) rooms.length rooms.length]]) (by simp)).left))
                  clear hlast HB2 HQ
                  go_wp2_with fail
                  go_roundw
                  case rel => exact ⟨R + 1, j, by omega, by go_num, rfl, HP9⟩
                  case measure => simp [intOf]; omega
    · obtain rfl : R = 4 := by omega
      have HPL := Lib.hid HR.out.2.low
      clear HR H4
      go_wp2_with fail
      refine (awake_any wr).mono ?_
      rintro e w20 ⟨rfl, hb20⟩
      go_wp2_with fail
      go_ret
      exact ⟨rfl, HPL.out.trans (hb20.mono HPL.out.size)⟩
end Go.Proofs.Ytnhifinfjfpoiaa

namespace Go.Proofs.Ytnhifinfjfpoiaa
open Go.RowKit Go.ChangeShapes Go.WideShapes Go.ChangeAt

theorem ownKnob_none : ownKnob Try.prog.godebug = none := by kernel_rfl
theorem laidOut_yes : laidOutB Try.prog = true := by kernel_rfl

set_option maxRecDepth 100000 in
theorem ratBaited_lifted (os : Os) (started : os.Started) (H : Type) (enc : TypeId × Value → H) :
    ReturnsInHanded {} Try.checked os 11 .any (Rows.ratBaitedSpec.pre6 enc Try.prog Try.f11 Rows.ratBaitedRow.domain false) (Rows.ratBaitedSpec.post enc Try.prog Try.f11 false true false false) := by
  refine returnsInHanded_of_change_sized (C := Try.checked) ownKnob_none started (by kernel_rfl) Try.func11
    (ChangeSpec.witness6 (enc := enc) (C := Try.checked) false ⟨#[], #[.slice none 0 0], []⟩ 8 (by kernel_rfl) (by kernel_rfl) (by kernel_rfl) (by kernel_rfl)) ?_
  intro W base args ds gs before hval0 hW0 _ hsz0 _
  have hval : ∀ (j : Nat) t v, Try.f11.params[j]? = some t → args[j]? = some v → Value.okWide Try.prog W .any base t v := hval0
  have hsz : (DataW.weightsEach Try.prog (Try.f11.params.toList ++ Rows.ratBaitedSpec.plain.varTypes Try.prog) (ds ++ gs)).all (· ≤ reachBytes) = true := hsz0
  have hW := hW0
  obtain ⟨p, q, hA0, hV, rfl, hfz, hnd⟩ := hW
  have hA : DataW.TrodAll enc Try.prog W 0 (fun _ => true) true Try.f11.params.toList args.toList ds p := hA0
  rw [Try.params11] at hA hval hsz
  obtain ⟨v0, d0, rfl, rfl, h0⟩ := trodAll_one hA
  obtain ⟨rfl, rfl⟩ := trodVars_none hV
  have k0 := h0
  obtain ⟨b0, hb0⟩ := open_bytes (hval 0 _ v0 rfl rfl) h0 (fun m hm => by
    have := List.all_eq_true.1 hsz m (DataW.weights_mem_each (j := 0) rfl rfl m hm)
    simpa using this)
  refine (ratBaited_any v0 b0 W hb0).mono fun e W' ⟨he, hb⟩ => ?_
  subst he
  have hlt0 : ∀ x ∈ p, x.block < W.heap.size := fun x hx => hW0.lt x (by simp [hx])
  have s0 := Below.trod laidOut_yes (by kernel_rfl) (of_decide_eq_true (by kernel_rfl)) k0 hb hlt0
  exact ⟨_, rfl, _, _, _, [], _, _, hW0, trodAll_mk1 (shut_bool Try.underlying4 true), trodAll_mk1 s0, rfl, hb.frame _, fun h => by cases h⟩

theorem ratBaited_holds : Rows.RatBaitedSaid :=
  OpenClaim.holds_of_wide 11 Try.f11 rfl rfl rfl rfl rfl rfl rfl ⟨rfl, rfl, rfl, rfl, rfl⟩ rfl rfl rfl rfl rfl (by kernel_rfl) Try.func11 (by kernel_rfl)
    (of_decide_eq_true (by kernel_rfl)) (by unfold Func.isWrapper; first | (rw [if_pos (by decide +kernel)]; kernel_rfl) | (rw [if_neg (by decide +kernel)]; exact ⟨rfl, rfl⟩))
    (fun os started H enc _ => ratBaited_lifted os started H enc)
end Go.Proofs.Ytnhifinfjfpoiaa
