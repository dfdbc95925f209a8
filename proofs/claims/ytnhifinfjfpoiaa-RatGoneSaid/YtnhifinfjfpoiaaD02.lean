/- RatGone holds: for whatever bytes the law answers true, and what came in reads as it read before. No condition is laid on the arguments beyond the form's own reach. -/
import Derived.Test.YtnhifinfjfpoiaaK11
import Derived.Test.YtnhifinfjfpoiaaK13
import Derived.Test.YtnhifinfjfpoiaaK14
import Derived.Test.YtnhifinfjfpoiaaK08
import Derived.Test.YtnhifinfjfpoiaaRows
import Derived.Test.YtnhifinfjfpoiaaK12
namespace Go.Proofs.Ytnhifinfjfpoiaa
open Go.RowKit
set_option linter.unusedVariables false
set_option linter.unusedSimpArgs false

/-- A way that is tried, so far. -/
def TriedAt (w : World) (ps : List Part) (C : Col) (n k : Nat) (wv : Value) (q : Bool) (W : World) : Prop :=
  ∃ l B', l.length = k + 1 ∧ (∀ j, j < l.length → 0 ≤ nth l j ∧ nth l j < n) ∧ q = allB (stepB C l) k ∧ B' ≤ W.heap.size ∧ PW w W (ps ++ [pRow B' 3 1 (k + 1) wv (intsV l)])
theorem allB_more (p : Nat → Bool) (n : Nat) : allB p (n + 1) = (allB p n && p n) := by
  rw [Bool.eq_iff_iff, Bool.and_eq_true, allB_iff, allB_iff]
  exact ⟨fun H => ⟨fun i hi => H i (by omega), H n (by omega)⟩, fun ⟨H, h⟩ i hi => by
    by_cases e : i = n
    · rw [e]; exact h
    · exact H i (by omega)⟩
def BoxW2 (b5 gw k : Nat) (rv x : Value) (W : World) : Prop := W.cell? ⟨b5, 0, none⟩ = some rv ∧ W.cell? ⟨gw, k, none⟩ = some x
def BoxN5 (b5 bn k nk bt a : Nat) (nv rw_ x tv y : Value) (W : World) : Prop := W.cell? ⟨b5, 3, none⟩ = some nv ∧ W.cell? ⟨bn, k, none⟩ = some rw_ ∧ W.cell? ⟨nk, a, none⟩ = some x ∧ W.cell? ⟨b5, 1, none⟩ = some tv ∧ W.cell? ⟨bt, a, none⟩ = some y
def BoxC5 (b5 gw m : Nat) (r t u nn x : Value) (W : World) : Prop := W.cell? ⟨b5, 0, none⟩ = some r ∧ W.cell? ⟨b5, 1, none⟩ = some t ∧ W.cell? ⟨b5, 2, none⟩ = some u ∧ W.cell? ⟨b5, 3, none⟩ = some nn ∧ W.cell? ⟨gw, m, none⟩ = some x

set_option maxRecDepth 100000 in
set_option maxHeartbeats 4000000 in
theorem ratGone_any (v1 v2 : Value) (xs1 xs2 : List Int) (w : World) (h1 : IsBytes w w.heap.size v1 xs1) (h2 : IsBytes w w.heap.size v2 xs2) :
    Calls Try.prog 13 #[v1, v2] w fun e w' => e = .returned (.bool true) ∧ Below w.heap.size w w' := by
  have HB := Lib.hid (And.intro h1 h2)
  clear h1 h2
  go_enter Try.func13, Try.ntmps13
  go_wp2_with fail
  refine (fill_any v1 xs1 w HB.out.1).mono ?_
  rintro e w1 ⟨rfl, hc1, hb1, hz1⟩
  have HP1 := Lib.hid ((PW.start w).fill hc1 hb1)
  obtain ⟨p1, hp1⟩ : ∃ p1, w.heap.size = p1 := ⟨_, rfl⟩
  have hP1 := HP1.out
  rw [hp1] at hP1
  have HP1 := Lib.hid hP1
  rw [hp1]
  clear hc1 hb1 hz1 hP1 hp1
  go_wp2_with fail
  refine (made_any p1 v1 xs1 5 5 w1 (HP1.out.chute 0 rfl HB.out.1) (by omega) (by omega)).mono ?_
  rintro e w2 ⟨r, t, u, nv, cv, lv, fv, rooms, traps, rs, k, N, T, M, L, left, rfl, hI, hcol, hT, hL, hF, hc2, ht2, nbN, nbT, bL, Lf, rfl, hLf, hsep⟩
  have HI := Lib.hid hI
  have HP2 := Lib.hid (((HP1.out.made 0 rfl hc2 ht2 hsep).newBlk 26 #[r, t, u, nv]).newBlk 55 #[cv, .slice (some ⟨bL, 0, none⟩) rooms.length rooms.length])
  have hn0 : 0 < rooms.length := hI.made.many.1
  have hn5 : (rooms.length : Int) ≤ 5 := hI.few
  obtain ⟨ar, qr, rfl⟩ := owns_slice (hsep.at 0 rfl)
  obtain ⟨at_, qt, rfl⟩ := owns_slice (hsep.at 1 rfl)
  obtain ⟨au, qu, rfl⟩ := owns_slice (hsep.at 2 rfl)
  obtain ⟨⟨fsN, hoN, _⟩, _⟩ : (pRows w1.heap.size rooms.length nv nbN N).told w2 := hsep.at 3 rfl
  obtain ⟨⟨fsT, hoT, _⟩, _⟩ : (pRows w1.heap.size rooms.length cv nbT T).told w2 := hsep.at 4 rfl
  obtain ⟨an, qn, rfl⟩ := owns_slice hoN
  obtain ⟨ac, qc, rfl⟩ := owns_slice hoT
  obtain ⟨al, ql, rfl⟩ := owns_slice (hsep.at 6 rfl)
  have HC2 := Lib.hid hcol
  clear hI hcol hT hL hF hc2 ht2 hLf hsep hoN hoT
  go_wp2_with fail
  obtain ⟨W3, hW3⟩ : ∃ W3, (w2.alloc (.cells #[.slice ar rooms.length qr, .slice at_ rooms.length qt, .slice au rs.length qu, .slice an N.length qn] 26)).alloc (.cells #[.slice ac T.length qc, .slice (some ⟨bL, 0, none⟩) rooms.length rooms.length] 55) = W3 := ⟨_, rfl⟩
  obtain ⟨b5, hb5⟩ : ∃ b5, w2.heap.size = b5 := ⟨_, rfl⟩
  have hP2 := HP2.out
  have hcol3 : ColAt W3 W3.heap.size (.slice ar rooms.length qr) (.slice at_ rooms.length qt) (.slice au rs.length qu) (.slice an N.length qn) ⟨rooms, traps, rs, N⟩ := by
    rw [← hW3]
    exact (HC2.out.below (((Below.refl _ _).alloc (Nat.le_refl _) _).alloc (by simp) _) (Nat.le_refl _)).mono (by simp; omega)
  rw [hW3, hb5] at hP2
  rw [hW3]
  have HP3 := Lib.hid hP2
  have HC3 := Lib.hid hcol3
  have hb6 : ∃ b6, w2.heap.size + 1 = b6 := ⟨_, rfl⟩
  obtain ⟨b6, hb6⟩ := hb6
  rw [hb5] at hb6
  rw [hb5]
  (try rw [hb6])
  clear hW3 hP2 hcol3 HC2 HP2 hb5
  refine (fill_any v2 xs2 W3 ⟨(HB.out.2.1.below HP3.out.low (Nat.le_refl _)).mono HP3.out.size, HB.out.2.2⟩).mono ?_
  rintro e w4 ⟨rfl, hc4, hb4, hz4⟩
  have HP4 := Lib.hid (HP3.out.fill hc4 hb4)
  have HC4 := Lib.hid ((HC3.out.below hb4 (Nat.le_refl _)).mono hb4.size)
  obtain ⟨p2, hp2⟩ : ∃ p2, W3.heap.size = p2 := ⟨_, rfl⟩
  rw [hp2] at HP4 ⊢
  have HCK := Lib.hid (HI.out.check (by omega))
  have hNl : N.length ≤ 5 := by have := HI.out.caught.lenN; have := HI.out.nights; omega
  clear hc4 hb4 hz4 hp2 HP3 HC3 HC4
  go_upto_region 3 with (fail)
  go_cut [9] (fun s9 wx => s9 = .func (.func 62) #[] #[.pointer (some ⟨b5, 0, none⟩)] ∧ Hid (GoneBegin w 5 b5 p2 v2 xs2 wx))
  case first =>
   go_wp2_with fail
   go_meet
   exact ⟨rfl, rooms.length, w1.heap.size, ar, qr, at_, qt, au, qu, an, qn, rooms, traps, rs, nbN, N, hn0, rfl, hNl, HCK.out, HP4.out.pick [8, 10, 1, 2, 3, 4] (by decide) rfl⟩
  case rest =>
  clear HCK hNl HI HP1 HP4 hn0 hn5
  obtain ⟨rfl, hcut2⟩ := hcut
  obtain ⟨n, B, r0, qr, t0, qt, u0, qu, n0, qn, rooms, traps, rs, nb, N, hn0, hl, hN5, hck, hP⟩ := hcut2.out
  have hcol : ∀ W, PW w W (madeCol b5 p2 v2 xs2 B (.slice r0 n qr) (.slice t0 n qt) (.slice u0 rs.length qu) (.slice n0 N.length qn) n rooms traps rs nb N) → ColAt W W.heap.size (.slice r0 n qr) (.slice t0 n qt) (.slice u0 rs.length qu) (.slice n0 N.length qn) ⟨rooms, traps, rs, N⟩ := fun W H =>
    made_read hck hl (H.at 2 rfl) (H.at 3 rfl) (H.at 4 rfl) (H.at 5 rfl)
  have HCOL := Lib.hid hcol
  obtain ⟨C, hCe⟩ : ∃ C : Col, (⟨rooms, traps, rs, N⟩ : Col) = C := ⟨_, rfl⟩
  have HE : Hid (C.rooms.length = n ∧ C.nights.length = N.length ∧ C.traps = traps ∧ C.nights = N ∧ C.runs = rs) := by rw [← hCe]; exact ⟨hl, rfl, rfl, rfl, rfl⟩
  rw [hCe] at HCOL hck
  have HCK := Lib.hid hck
  have hn6 : n ≤ 6 := by have := (okCol_of hck).houses.2; have := HE.out.1; omega
  have HP := Lib.hid hP
  have k3 := (four_at (hP.at 0 rfl)).2.2.2
  clear hcut2 hcol hCe hck hl hP
  go_wp2_with fail
  clear k3
  go_loopw [43] (fun i wr => ∃ m : Nat, m ≤ N.length ∧ i = .int .i64 m ∧ Hid (PW w wr (madeCol b5 p2 v2 xs2 B (.slice r0 n qr) (.slice t0 n qt) (.slice u0 rs.length qu) (.slice n0 N.length qn) n rooms traps rs nb N))) (fun i _ => N.length - (intOf i).toNat)
  case atStart => exact ⟨0, Nat.zero_le _, rfl, HP⟩
  case round =>
    obtain ⟨m, hm, rfl, HR⟩ := hrel
    by_cases hmN : m < N.length
    · have hmi : (m : Int) < N.length := by omega
      have k0 := (four_at (HR.out.at 0 rfl)).1
      go_wp2_with fail
      clear k0 HP
      obtain ⟨wo1, rfl⟩ : ∃ wo1 : World, wo1 = wr := ⟨_, rfl⟩
      go_loopw [49] (fun i wr => ∃ h : Nat, h ≤ n ∧ i = .int .i64 h ∧ Hid (PW w wr (madeCol b5 p2 v2 xs2 B (.slice r0 n qr) (.slice t0 n qt) (.slice u0 rs.length qu) (.slice n0 N.length qn) n rooms traps rs nb N))) (fun i _ => n - (intOf i).toNat)
      case atStart => exact ⟨0, Nat.zero_le _, rfl, HR⟩
      case round =>
        obtain ⟨h, hh, rfl, HR2⟩ := hrel
        by_cases hhn : h < n
        · as_aux_lemma =>
            have hhi : (h : Int) < n := by omega
            have HAE := Lib.hid (asked_ok HCK.out (h := h) (m := m) (by have := HE.out.1; omega) (by have := HE.out.2.1; omega))
            obtain ⟨k0, k1, k2, k3⟩ := four_at (HR2.out.at 0 rfl)
            clear HR
            go_wp2_with fail
            refine (Origins_good C _ _ _ _ h m wr (HCOL.out _ HR2.out) HAE.out).mono ?_
            rintro e w5 ⟨lv, rfl, hl5, hb5⟩
            rw [Int.toNat_natCast, Int.toNat_natCast] at hl5
            have HP5 := Lib.hid (HR2.out.below hb5)
            have HL5 := Lib.hid hl5
            clear hl5 hb5 k0 k1 k2 k3
            have k0 := (four_at (HP5.out.at 0 rfl)).1
            go_wp2_with fail
            clear k0
            obtain ⟨wo2, rfl⟩ : ∃ wo2 : World, wo2 = wr := ⟨_, rfl⟩
            go_loopw [64] (fun i wr => ∃ f : Nat, f ≤ n ∧ i = .int .i64 f ∧ Hid (PW w wr (madeCol b5 p2 v2 xs2 B (.slice r0 n qr) (.slice t0 n qt) (.slice u0 rs.length qu) (.slice n0 N.length qn) n rooms traps rs nb N) ∧ IsInts wr wr.heap.size lv (natsI (members (org C m h))))) (fun i _ => n - (intOf i).toNat)
            case atStart => exact ⟨0, Nat.zero_le _, rfl, HP5.out, HL5.out⟩
            case round =>
              obtain ⟨f, hf, rfl, HR3⟩ := hrel
              by_cases hfn : f < n
              · have hfi : (f : Int) < n := by omega
                obtain ⟨k0, k1, k2, k3⟩ := four_at (HR3.out.1.at 0 rfl)
                clear HP5 HL5
                go_wp2_with fail
                refine (Way_main C _ _ _ _ f h m wr (HCOL.out _ HR3.out.1) HAE.out (by have := HE.out.1; omega)).mono ?_
                rintro e w6 ⟨wv, L, rfl, hL6, hL1, hL2, hb6⟩
                have HP6 := Lib.hid (HR3.out.1.below hb6)
                have HO6 := Lib.hid ((HR3.out.2.below hb6 (Nat.le_refl _)).mono hb6.size)
                have HL6 := Lib.hid (And.intro hL6 hL1)
                have hcb : (org C m h).testBit f = comeB C f m h := org_come (okCol_of HCK.out) m h f (by have := HE.out.1; omega) (by have := HE.out.1; omega) (by have := HE.out.2.1; omega)
                have HCT : Hid (anyB (isAt (natsI (members (org C m h))) (f : Int)) (natsI (members (org C m h))).length = comeB C f m h) := (contains_bit (by omega)).trans hcb
                clear hL6 hL1 hL2 hb6 hcb k0 k1 k2 k3
                cases hcm : comeB C f m h
                · simp only [Bool.false_eq_true, if_false]
                  rw [hcm] at HCT
                  clear hcm
                  go_wp2_with fail
                  refine (contains_any lv _ f w6 HO6.out).mono ?_
                  rintro e w7 ⟨rfl, rfl⟩
                  rw [HCT.out]
                  go_wp2_with fail
                  go_roundw
                  case rel => exact ⟨f + 1, by omega, by go_num, HP6.out, HO6.out⟩
                  case measure => simp [intOf]; omega
                · simp only [if_true]
                  rw [hcm] at HCT
                  have HWY := Lib.hid (HL6.out.2 hcm)
                  clear hcm
                  go_wp2_with fail
                  refine (contains_any lv _ f w6 HO6.out).mono ?_
                  rintro e w7 ⟨rfl, rfl⟩
                  rw [HCT.out]
                  obtain ⟨k0, k1, k2, k3⟩ := four_at (HP6.out.at 0 rfl)
                  go_wp2_with fail
                  refine (Gone_good C _ _ _ _ wv L w6 (HCOL.out _ HP6.out) HL6.out.1 HWY.out.gone.1).mono ?_
                  rintro e w7 ⟨rfl, hb7⟩
                  rw [HWY.out.gone.2]
                  have HP7 := Lib.hid (HP6.out.below hb7)
                  have HO7 := Lib.hid ((HO6.out.below hb7 (Nat.le_refl _)).mono hb7.size)
                  have hLw := (HL6.out.1.below hb7 (Nat.le_refl _)).mono hb7.size
                  obtain ⟨aw, qw, rfl, _, _, hcw⟩ := hLw.open
                  have hlen := HWY.out.len
                  obtain ⟨bw, ow, rfl, _, c0⟩ := hcw 0 (by omega)
                  obtain ⟨bw', ow', e', _, cm⟩ := hcw m (by omega)
                  cases e'
                  rw [HWY.out.first] at c0
                  rw [HWY.out.last] at cm
                  rw [Nat.add_zero] at c0
                  have hli : (L.length : Int) = (m : Int) + 1 := by omega
                  have hwm : IntKind.i64.wrap ((m : Int) + 1) = (m : Int) + 1 := by rw [IntKind.wrap_i64]; omega
                  have hb0 : (0 : Int) < (m : Int) + 1 := by omega
                  have hbm : (m : Int) < (m : Int) + 1 := by omega
                  clear hcw hLw hlen hb7 k0 k1 k2 k3
                  go_wp2_with fail
                  go_roundw
                  case rel => exact ⟨f + 1, by omega, by go_num, HP7.out, HO7.out⟩
                  case measure => simp [intOf]; omega
              · obtain rfl : n = f := by omega
                clear HP5 HL5
                go_wp2_with fail
                go_roundw
                case rel => exact ⟨h + 1, by omega, by go_num, HR3.out.1⟩
                case measure => simp [intOf]; omega
        · obtain rfl : n = h := by omega
          clear HR
          go_wp2_with fail
          obtain ⟨wo3, rfl⟩ : ∃ wo3 : World, wo3 = wr := ⟨_, rfl⟩
          go_loopw [121] (fun i wr => ∃ d : Nat, d ≤ 3 ∧ i = .int .i64 d ∧ Hid (PW w wr (madeCol b5 p2 v2 xs2 B (.slice r0 n qr) (.slice t0 n qt) (.slice u0 rs.length qu) (.slice n0 N.length qn) n rooms traps rs nb N))) (fun i _ => 3 - (intOf i).toNat)
          case atStart => exact ⟨0, by omega, rfl, HR2⟩
          case round =>
            obtain ⟨d, hd, rfl, HR⟩ := hrel
            by_cases hd3 : d < 3
            · have hdi : (d : Int) < 3 := by omega
              have k0 := (four_at (HR.out.at 0 rfl)).1
              clear HR2
              go_wp2_with fail
              refine (pull_any p2 v2 xs2 n wr (HR.out.chute 1 rfl HB.out.2) (by omega) (by omega)).mono ?_
              rintro e w5 ⟨x, rfl, x0, x1, hc5, ht5⟩
              have HP5 := Lib.hid (HR.out.turn 1 rfl hc5 ht5)
              clear hc5 ht5 k0
              obtain ⟨xn, rfl⟩ : ∃ xn : Nat, x = xn := ⟨x.toNat, by omega⟩
              have HT0 : Hid (TriedAt w (madeCol b5 p2 v2 xs2 B (.slice r0 n qr) (.slice t0 n qt) (.slice u0 rs.length qu) (.slice n0 N.length qn) n rooms traps rs nb N) C n 0 (.slice (some ⟨w5.heap.size, 0, none⟩) 1 1) true (w5.alloc (.cells #[.int .i64 xn] 3))) :=
                ⟨[(xn : Int)], w5.heap.size, rfl, fun j hj => by
                  obtain rfl : j = 0 := by simp at hj; omega
                  show 0 ≤ (xn : Int) ∧ (xn : Int) < n
                  omega, by rw [allB_true (fun i hi => by omega)], by simp, HP5.out.pushOne xn⟩
              go_wp2_with fail
              obtain ⟨wo4, rfl⟩ : ∃ wo4 : World, wo4 = wr := ⟨_, rfl⟩
              go_loopw [19, 20, 130] (fun wv tv i wr => ∃ k : Nat, ∃ q : Bool, k ≤ m ∧ i = .int .i64 k ∧ tv = .bool q ∧ Hid (TriedAt w (madeCol b5 p2 v2 xs2 B (.slice r0 n qr) (.slice t0 n qt) (.slice u0 rs.length qu) (.slice n0 N.length qn) n rooms traps rs nb N) C n k wv q wr)) (fun _ _ i _ => m - (intOf i).toNat)
              case atStart => exact ⟨0, true, Nat.zero_le _, rfl, rfl, HT0⟩
              case round =>
                obtain ⟨k, q, hk, rfl, rfl, HQ⟩ := hrel
                obtain ⟨l, B', hll, hlb, hq, hB', hP6⟩ := HQ.out
                obtain ⟨gw, cw, rfl, hcw, hwc⟩ := int_row_cells (hP6.at 6 rfl) hll (by omega)
                have HLL := Lib.hid hll
                have HLB := Lib.hid hlb
                have HQE := Lib.hid hq
                have HBB := Lib.hid hB'
                clear HT0 HQ HR
                by_cases hkm : k < m
                · as_aux_lemma =>
                    have hki : (k : Int) < m := by omega
                    have hkk : (k : Int) < (k : Int) + 1 := by omega
                    obtain ⟨a, ha⟩ : ∃ a : Nat, nth l k = a := ⟨(nth l k).toNat, by have := hlb k (by omega); omega⟩
                    have han : a < n := by have := hlb k (by omega); omega
                    have HA := Lib.hid ha
                    have HP6 := Lib.hid hP6.drew
                    clear hll hlb hq hB' hwc hP6 ha
                    go_upto_region 32 with (fail)
                    have hC : BoxW2 b5 gw k (.slice r0 n qr) (.int .i64 a) wr.drew := ⟨(four_at (HP6.out.at 0 rfl)).1, by rw [← HA.out]; exact (IntBlk.of_owns (HP6.out.at 6 rfl) HLL.out (fun _ _ => rfl)).cell (by omega)⟩
                    refine wp_region_noPanic ?_
                    refine anyL_start (S := Till [] (BoxW2 b5 gw k (.slice r0 n qr) (.int .i64 a))) (by kernel_rfl) (fun _ => hC) (fun hT => ?_)
                    refine takeL0 (i := 0) (d := 133) (v := ?_) rfl rfl (by kernel_rfl) (by kernel_rfl) (by kernel_rfl) (by kernel_rfl) (fun _ _ _ _ _ h => h) (by rfl) ?_ (fun _ => hC) ?_
                    rotate_left
                    · intro w
                      go_simp
                      try with_reducible rfl
                    (try simp only [Act.put, List.setIfInBounds_toArray, List.set_cons_zero, List.set_cons_succ])
                    refine takeL0 (i := 1) (d := 134) (v := ?_) rfl rfl (by kernel_rfl) (by kernel_rfl) (by kernel_rfl) (by kernel_rfl) (fun _ _ _ _ _ h => h) (by rfl) ?_ (fun _ => hC) ?_
                    rotate_left
                    · intro w
                      go_simp
                      try with_reducible rfl
                    (try simp only [Act.put, List.setIfInBounds_toArray, List.set_cons_zero, List.set_cons_succ])
                    refine takeL0 (i := 2) (d := 135) (v := ?_) rfl rfl (by kernel_rfl) (by kernel_rfl) (by kernel_rfl) (by kernel_rfl) (fun _ _ _ _ _ h => h) (by rfl) ?_ (fun _ => hC) ?_
                    rotate_left
                    · intro w
                      go_simp
                      try with_reducible rfl
                    (try simp only [Act.put, List.setIfInBounds_toArray, List.set_cons_zero, List.set_cons_succ])
                    refine takeL0 (i := 4) (d := 137) (v := ?_) rfl rfl (by kernel_rfl) (by kernel_rfl) (by kernel_rfl) (by kernel_rfl) (fun _ _ _ _ _ h => h) (by rfl) ?_ (fun _ => hC) ?_
                    rotate_left
                    · intro w
                      go_simp
                      try with_reducible rfl
                    (try simp only [Act.put, List.setIfInBounds_toArray, List.set_cons_zero, List.set_cons_succ])
                    refine takeL0 (i := 5) (d := 138) (v := ?_) rfl rfl (by kernel_rfl) (by kernel_rfl) (by kernel_rfl) (by kernel_rfl) (fun _ _ _ _ _ h => h) (by rfl) ?_ (fun _ => hC) ?_
                    rotate_left
                    · intro w
                      go_simp
                      try with_reducible rfl
                    (try simp only [Act.put, List.setIfInBounds_toArray, List.set_cons_zero, List.set_cons_succ])
                    refine takeL (i := 3) (d := 136) (v := ?_) rfl rfl (by kernel_rfl) (by kernel_rfl) (by kernel_rfl) (by kernel_rfl) (by kernel_rfl) (by kernel_rfl) (fun _ _ _ _ _ h => h) (by rfl) ?_ hC ?_
                    rotate_left
                    · intro w hSw
                      (try dsimp only at hSw)
                      obtain ⟨hS0, hS1⟩ := hSw
                      go_simp
                      try with_reducible rfl
                    (try simp only [Act.put, List.setIfInBounds_toArray, List.set_cons_zero, List.set_cons_succ])
                    refine takeL (i := 6) (d := 139) (v := ?_) rfl rfl (by kernel_rfl) (by kernel_rfl) (by kernel_rfl) (by kernel_rfl) (by kernel_rfl) (by kernel_rfl) (fun _ _ _ _ _ h => h) (by rfl) ?_ hC ?_
                    rotate_left
                    · intro w hSw
                      (try dsimp only at hSw)
                      obtain ⟨hS0, hS1⟩ := hSw
                      go_simp
                      try with_reducible rfl
                    (try simp only [Act.put, List.setIfInBounds_toArray, List.set_cons_zero, List.set_cons_succ])
                    refine takeL0 (i := 7) (d := 140) (v := ?_) rfl rfl (by kernel_rfl) (by kernel_rfl) (by kernel_rfl) (by kernel_rfl) (fun _ _ _ _ _ h => h) (by rfl) ?_ (fun _ => hC) ?_
                    rotate_left
                    · intro w
                      go_simp
                      try with_reducible rfl
                    (try simp only [Act.put, List.setIfInBounds_toArray, List.set_cons_zero, List.set_cons_succ])
                    refine nextL (i := 8) rfl (by kernel_rfl) (fun K hK => ?_)
                    go_simp
                    refine (pull_any p2 v2 xs2 n wr.drew (HP6.out.chute 1 rfl HB.out.2) (by omega) (by omega)).mono ?_
                    rintro e w7 ⟨y, rfl, y0, y1, hc7, ht7⟩
                    have HP7 := Lib.hid (HP6.out.turn 1 rfl hc7 ht7)
                    clear hC
                    have hC : BoxW2 b5 gw k (.slice r0 n qr) (.int .i64 a) w7 := ⟨(four_at (HP7.out.at 0 rfl)).1, by rw [← HA.out]; exact (IntBlk.of_owns (HP7.out.at 6 rfl) HLL.out (fun _ _ => rfl)).cell (by omega)⟩
                    have hz7 := ht7.size
                    clear hc7 ht7
                    go_simp
                    refine hK.out _ _ (fun _ => hC) ?_
                    clear hK K
                    (try simp only [Act.put, List.setIfInBounds_toArray, List.set_cons_zero, List.set_cons_succ])
                    refine takeL0 (i := 9) (d := 22) (v := ?_) rfl rfl (by kernel_rfl) (by kernel_rfl) (by kernel_rfl) (by kernel_rfl) (fun _ _ _ _ _ h => h) (by rfl) ?_ (fun _ => hC) ?_
                    rotate_left
                    · intro w
                      go_simp
                      try with_reducible rfl
                    (try simp only [Act.put, List.setIfInBounds_toArray, List.set_cons_zero, List.set_cons_succ])
                    refine takeL0 (i := 10) (d := 23) (v := ?_) rfl rfl (by kernel_rfl) (by kernel_rfl) (by kernel_rfl) (by kernel_rfl) (fun _ _ _ _ _ h => h) (by rfl) ?_ (fun _ => hC) ?_
                    rotate_left
                    · intro w
                      go_simp
                      try with_reducible rfl
                    (try simp only [Act.put, List.setIfInBounds_toArray, List.set_cons_zero, List.set_cons_succ])
                    refine anyL_done (by kernel_rfl) ?_ _
                    refine NoPanic.normal ?_
                    obtain ⟨yn, rfl⟩ : ∃ yn : Nat, y = yn := ⟨y.toNat, by omega⟩
                    have hyn : yn < n := by omega
                    have HAK := Lib.hid (asked_ok HCK.out (h := a) (m := k) (by have := HE.out.1; omega) (by have := HE.out.2.1; omega))
                    have hBW7 : B' ≤ w7.heap.size := Nat.le_trans HBB.out hz7
                    have HB7 := Lib.hid hBW7
                    clear hC hz7 hBW7 x0 x1 y0 y1 hT
                    obtain ⟨k0, k1, k2, k3⟩ := four_at (HP7.out.at 0 rfl)
                    go_wp2_with fail
                    refine (full_any C _ _ _ _ a k w7 (HCOL.out _ (HP7.out.left (qs := [_])))).mono ?_
                    rintro e w8 ⟨rfl, hb8⟩
                    have hfv : fullV C a k = fullB C a k := by unfold fullV; rw [if_pos HAK.out]; rfl
                    rw [HAK.out, hfv]
                    have HP8 := Lib.hid (HP7.out.below hb8)
                    have HB8 := Lib.hid (Nat.le_trans HB7.out hb8.size)
                    clear hb8 k0 k1 k2 k3 hfv
                    have hNk : k < N.length := by omega
                    obtain ⟨bn, cn, rfl, hcn, m1, hBN⟩ := rows_at' (HP8.out.at 5 rfl) hNk
                    obtain ⟨bt, ct, e3, hct, htc⟩ := int_row_cells (HP8.out.at 3 rfl) (by have := (okCol_of HCK.out).traps; rw [HE.out.2.2.1, HE.out.1] at this; exact this) hn0
                    obtain ⟨rfl, rfl⟩ : t0 = some ⟨bt, 0, none⟩ ∧ qt = ct := by injection e3 with e4 e5 e6; exact ⟨e4, e6⟩
                    have m2 := hBN.cell han
                    have m3 := htc a han
                    obtain ⟨x1, hx1⟩ : ∃ x, nth (nthR N k) a = x := ⟨_, rfl⟩
                    obtain ⟨x2, hx2⟩ : ∃ x, nth traps a = x := ⟨_, rfl⟩
                    have hfb : fullB C a k = (x1 == x2) := by unfold fullB; rw [HE.out.2.2.2.1, HE.out.2.2.1, hx1, hx2]
                    rw [hx1] at m2
                    rw [hx2] at m3
                    rw [hfb]
                    have HFB := Lib.hid hfb
                    clear hx1 hx2 hfb hBN htc
                    go_upto_region 34 with (fail)
                    have hki5 : (k : Int) < N.length := by omega
                    have hai : (a : Int) < n := by omega
                    have HP8 := Lib.hid HP8.out.drew
                    have hC : BoxN5 b5 bn k (nb k) bt a (.slice (some ⟨bn, 0, none⟩) N.length qn) (.slice (some ⟨nb k, 0, none⟩) n cn) (.int .i64 x1) (.slice (some ⟨bt, 0, none⟩) n qt) (.int .i64 x2) w8.drew := ⟨(four_at (HP8.out.at 0 rfl)).2.2.2, m1, m2, (four_at (HP8.out.at 0 rfl)).2.1, m3⟩
                    refine wp_region_noPanic ?_
                    refine anyL_start (S := Till [] (BoxN5 b5 bn k (nb k) bt a (.slice (some ⟨bn, 0, none⟩) N.length qn) (.slice (some ⟨nb k, 0, none⟩) n cn) (.int .i64 x1) (.slice (some ⟨bt, 0, none⟩) n qt) (.int .i64 x2))) (by kernel_rfl) (fun _ => hC) (fun hT => ?_)
                    refine takeL0 (i := 0) (d := 149) (v := ?_) rfl rfl (by kernel_rfl) (by kernel_rfl) (by kernel_rfl) (by kernel_rfl) (fun _ _ _ _ _ h => h) (by rfl) ?_ (fun _ => hC) ?_
                    rotate_left
                    · intro w
                      go_simp
                      try with_reducible rfl
                    (try simp only [Act.put, List.setIfInBounds_toArray, List.set_cons_zero, List.set_cons_succ])
                    refine takeL0 (i := 1) (d := 150) (v := ?_) rfl rfl (by kernel_rfl) (by kernel_rfl) (by kernel_rfl) (by kernel_rfl) (fun _ _ _ _ _ h => h) (by rfl) ?_ (fun _ => hC) ?_
                    rotate_left
                    · intro w
                      go_simp
                      try with_reducible rfl
                    (try simp only [Act.put, List.setIfInBounds_toArray, List.set_cons_zero, List.set_cons_succ])
                    refine takeL0 (i := 2) (d := 151) (v := ?_) rfl rfl (by kernel_rfl) (by kernel_rfl) (by kernel_rfl) (by kernel_rfl) (fun _ _ _ _ _ h => h) (by rfl) ?_ (fun _ => hC) ?_
                    rotate_left
                    · intro w
                      go_simp
                      try with_reducible rfl
                    (try simp only [Act.put, List.setIfInBounds_toArray, List.set_cons_zero, List.set_cons_succ])
                    refine takeL0 (i := 3) (d := 152) (v := ?_) rfl rfl (by kernel_rfl) (by kernel_rfl) (by kernel_rfl) (by kernel_rfl) (fun _ _ _ _ _ h => h) (by rfl) ?_ (fun _ => hC) ?_
                    rotate_left
                    · intro w
                      go_simp
                      try with_reducible rfl
                    (try simp only [Act.put, List.setIfInBounds_toArray, List.set_cons_zero, List.set_cons_succ])
                    refine takeL0 (i := 4) (d := 153) (v := ?_) rfl rfl (by kernel_rfl) (by kernel_rfl) (by kernel_rfl) (by kernel_rfl) (fun _ _ _ _ _ h => h) (by rfl) ?_ (fun _ => hC) ?_
                    rotate_left
                    · intro w
                      go_simp
                      try with_reducible rfl
                    (try simp only [Act.put, List.setIfInBounds_toArray, List.set_cons_zero, List.set_cons_succ])
                    refine takeL0 (i := 6) (d := 155) (v := ?_) rfl rfl (by kernel_rfl) (by kernel_rfl) (by kernel_rfl) (by kernel_rfl) (fun _ _ _ _ _ h => h) (by rfl) ?_ (fun _ => hC) ?_
                    rotate_left
                    · intro w
                      go_simp
                      try with_reducible rfl
                    (try simp only [Act.put, List.setIfInBounds_toArray, List.set_cons_zero, List.set_cons_succ])
                    refine takeL0 (i := 9) (d := 158) (v := ?_) rfl rfl (by kernel_rfl) (by kernel_rfl) (by kernel_rfl) (by kernel_rfl) (fun _ _ _ _ _ h => h) (by rfl) ?_ (fun _ => hC) ?_
                    rotate_left
                    · intro w
                      go_simp
                      try with_reducible rfl
                    (try simp only [Act.put, List.setIfInBounds_toArray, List.set_cons_zero, List.set_cons_succ])
                    refine takeL0 (i := 12) (d := 161) (v := ?_) rfl rfl (by kernel_rfl) (by kernel_rfl) (by kernel_rfl) (by kernel_rfl) (fun _ _ _ _ _ h => h) (by rfl) ?_ (fun _ => hC) ?_
                    rotate_left
                    · intro w
                      go_simp
                      try with_reducible rfl
                    (try simp only [Act.put, List.setIfInBounds_toArray, List.set_cons_zero, List.set_cons_succ])
                    refine takeL0 (i := 14) (d := 163) (v := ?_) rfl rfl (by kernel_rfl) (by kernel_rfl) (by kernel_rfl) (by kernel_rfl) (fun _ _ _ _ _ h => h) (by rfl) ?_ (fun _ => hC) ?_
                    rotate_left
                    · intro w
                      go_simp
                      try with_reducible rfl
                    (try simp only [Act.put, List.setIfInBounds_toArray, List.set_cons_zero, List.set_cons_succ])
                    refine takeL (i := 5) (d := 154) (v := ?_) rfl rfl (by kernel_rfl) (by kernel_rfl) (by kernel_rfl) (by kernel_rfl) (by kernel_rfl) (by kernel_rfl) (fun _ _ _ _ _ h => h) (by rfl) ?_ hC ?_
                    rotate_left
                    · intro w hSw
                      (try dsimp only at hSw)
                      obtain ⟨hS0, hS1, hS2, hS3, hS4⟩ := hSw
                      go_simp
                      try with_reducible rfl
                    (try simp only [Act.put, List.setIfInBounds_toArray, List.set_cons_zero, List.set_cons_succ])
                    refine takeL0 (i := 7) (d := 156) (v := ?_) rfl rfl (by kernel_rfl) (by kernel_rfl) (by kernel_rfl) (by kernel_rfl) (fun _ _ _ _ _ h => h) (by rfl) ?_ (fun _ => hC) ?_
                    rotate_left
                    · intro w
                      go_simp
                      try with_reducible rfl
                    (try simp only [Act.put, List.setIfInBounds_toArray, List.set_cons_zero, List.set_cons_succ])
                    refine takeL (i := 8) (d := 157) (v := ?_) rfl rfl (by kernel_rfl) (by kernel_rfl) (by kernel_rfl) (by kernel_rfl) (by kernel_rfl) (by kernel_rfl) (fun _ _ _ _ _ h => h) (by rfl) ?_ hC ?_
                    rotate_left
                    · intro w hSw
                      (try dsimp only at hSw)
                      obtain ⟨hS0, hS1, hS2, hS3, hS4⟩ := hSw
                      go_simp
                      try with_reducible rfl
                    (try simp only [Act.put, List.setIfInBounds_toArray, List.set_cons_zero, List.set_cons_succ])
                    refine takeL0 (i := 10) (d := 159) (v := ?_) rfl rfl (by kernel_rfl) (by kernel_rfl) (by kernel_rfl) (by kernel_rfl) (fun _ _ _ _ _ h => h) (by rfl) ?_ (fun _ => hC) ?_
                    rotate_left
                    · intro w
                      go_simp
                      try with_reducible rfl
                    (try simp only [Act.put, List.setIfInBounds_toArray, List.set_cons_zero, List.set_cons_succ])
                    refine takeL (i := 11) (d := 160) (v := ?_) rfl rfl (by kernel_rfl) (by kernel_rfl) (by kernel_rfl) (by kernel_rfl) (by kernel_rfl) (by kernel_rfl) (fun _ _ _ _ _ h => h) (by rfl) ?_ hC ?_
                    rotate_left
                    · intro w hSw
                      (try dsimp only at hSw)
                      obtain ⟨hS0, hS1, hS2, hS3, hS4⟩ := hSw
                      go_simp
                      try with_reducible rfl
                    (try simp only [Act.put, List.setIfInBounds_toArray, List.set_cons_zero, List.set_cons_succ])
                    refine takeL (i := 13) (d := 162) (v := ?_) rfl rfl (by kernel_rfl) (by kernel_rfl) (by kernel_rfl) (by kernel_rfl) (by kernel_rfl) (by kernel_rfl) (fun _ _ _ _ _ h => h) (by rfl) ?_ hC ?_
                    rotate_left
                    · intro w hSw
                      (try dsimp only at hSw)
                      obtain ⟨hS0, hS1, hS2, hS3, hS4⟩ := hSw
                      go_simp
                      try with_reducible rfl
                    (try simp only [Act.put, List.setIfInBounds_toArray, List.set_cons_zero, List.set_cons_succ])
                    refine takeL0 (i := 15) (d := 164) (v := ?_) rfl rfl (by kernel_rfl) (by kernel_rfl) (by kernel_rfl) (by kernel_rfl) (fun _ _ _ _ _ h => h) (by rfl) ?_ (fun _ => hC) ?_
                    rotate_left
                    · intro w
                      go_simp
                      try with_reducible rfl
                    (try simp only [Act.put, List.setIfInBounds_toArray, List.set_cons_zero, List.set_cons_succ])
                    refine takeL (i := 16) (d := 165) (v := ?_) rfl rfl (by kernel_rfl) (by kernel_rfl) (by kernel_rfl) (by kernel_rfl) (by kernel_rfl) (by kernel_rfl) (fun _ _ _ _ _ h => h) (by rfl) ?_ hC ?_
                    rotate_left
                    · intro w hSw
                      (try dsimp only at hSw)
                      obtain ⟨hS0, hS1, hS2, hS3, hS4⟩ := hSw
                      go_simp
                      try with_reducible rfl
                    (try simp only [Act.put, List.setIfInBounds_toArray, List.set_cons_zero, List.set_cons_succ])
                    refine takeL0 (i := 17) (d := 166) (v := ?_) rfl rfl (by kernel_rfl) (by kernel_rfl) (by kernel_rfl) (by kernel_rfl) (fun _ _ _ _ _ h => h) (by rfl) ?_ (fun _ => hC) ?_
                    rotate_left
                    · intro w
                      go_simp
                      try with_reducible rfl
                    (try simp only [Act.put, List.setIfInBounds_toArray, List.set_cons_zero, List.set_cons_succ])
                    refine takeL0 (i := 18) (d := 167) (v := ?_) rfl rfl (by kernel_rfl) (by kernel_rfl) (by kernel_rfl) (by kernel_rfl) (fun _ _ _ _ _ h => h) (by rfl) ?_ (fun _ => hC) ?_
                    rotate_left
                    · intro w
                      go_simp
                      try with_reducible rfl
                    (try simp only [Act.put, List.setIfInBounds_toArray, List.set_cons_zero, List.set_cons_succ])
                    refine takeL0 (i := 19) (d := 168) (v := ?_) rfl rfl (by kernel_rfl) (by kernel_rfl) (by kernel_rfl) (by kernel_rfl) (fun _ _ _ _ _ h => h) (by rfl) ?_ (fun _ => hC) ?_
                    rotate_left
                    · intro w
                      go_simp
                      try with_reducible rfl
                    (try simp only [Act.put, List.setIfInBounds_toArray, List.set_cons_zero, List.set_cons_succ])
                    refine anyL_done (by kernel_rfl) ?_ _
                    refine NoPanic.normal ?_
                    clear hC hT m1 m2 m3
                    go_upto_region 36 with (fail)
                    go_cut [20, 24] (fun s20 _ wx => s20 = .bool (q && (x1 == x2) && goesI C a yn) ∧ Hid (PW w wx (madeCol b5 p2 v2 xs2 B (.slice r0 n qr) (.slice (some ⟨bt, 0, none⟩) n qt) (.slice u0 rs.length qu) (.slice (some ⟨bn, 0, none⟩) N.length qn) n rooms traps rs nb N ++ [pRow B' 3 1 (k + 1) (.slice (some ⟨gw, 0, none⟩) (k + 1) cw) (intsV l)]) ∧ B' ≤ wx.heap.size))
                    case first =>
                      have hhb : w8.drew.heap[b5]? = some (.cells #[.slice r0 n qr, .slice (some ⟨bt, 0, none⟩) n qt, .slice u0 rs.length qu, .slice (some ⟨bn, 0, none⟩) N.length qn] 26 (0, 0)) := HP8.out.at 0 rfl
                      have HHB := Lib.hid hhb
                      clear hhb
                      cases q
                      · go_wp2_with fail
                        go_meet
                        exact ⟨by simp, HP8.out, HB8.out⟩
                      · by_cases hx : x1 = x2
                        · have hxb : (x1 == x2) = true := by simpa using hx
                          subst hx
                          go_wp2_with fail
                          refine (near_any C b5 _ _ _ _ a yn w8.drew HHB.out (HCOL.out _ (HP8.out.left (qs := [_]))).2.2.1).mono ?_
                          rintro e w9 ⟨rfl, hb9⟩
                          have HP9 := Lib.hid (HP8.out.below hb9)
                          have HB9 := Lib.hid (Nat.le_trans HB8.out hb9.size)
                          clear hb9
                          go_wp2_with fail
                          go_meet
                          exact ⟨by simp, HP9.out, HB9.out⟩
                        · have hxb : (x1 == x2) = false := by simpa using hx
                          go_wp2_with fail
                          go_meet
                          exact ⟨by simp [hxb], HP8.out, HB8.out⟩
                    case rest =>
                      obtain ⟨rfl, hcut3⟩ := hcut
                      have HP9 := Lib.hid (hcut3.out.1.alloc (.cells #[.int .i64 yn] 3))
                      have HB9 : Hid (B' ≤ (wc.alloc (.cells #[.int .i64 yn] 3)).heap.size) := by show B' ≤ _; have := hcut3.out.2; simp; omega
                      have hq2 : (q && (x1 == x2) && goesI C a yn) = allB (stepB C (l ++ [(yn : Int)])) (k + 1) := by
                        have hll := HLL.out
                        rw [allB_more]
                        have e1 : allB (stepB C (l ++ [(yn : Int)])) k = q := by
                          rw [HQE.out]
                          rw [Bool.eq_iff_iff, allB_iff, allB_iff]
                          exact ⟨fun H i hi => by rw [← stepB_snoc (x := (yn : Int)) (by omega)]; exact H i hi, fun H i hi => by rw [stepB_snoc (by omega)]; exact H i hi⟩
                        have e2 : stepB C (l ++ [(yn : Int)]) k = ((x1 == x2) && goesI C a yn) := by
                          unfold stepB
                          have e3 : nth (l ++ [(yn : Int)]) (k + 1) = yn := by
                            have := nth_last' l (yn : Int)
                            rw [hll] at this; exact this
                          rw [nth_snoc' (by omega), HA.out, e3, Int.toNat_natCast, Int.toNat_natCast, HFB.out, nearC_bit (by have := HE.out.1; omega) (by omega)]
                          rfl
                        rw [e1, e2, Bool.and_assoc]
                      obtain ⟨q2, hq3⟩ : ∃ q2, (q && (x1 == x2) && goesI C a yn) = q2 := ⟨_, rfl⟩
                      rw [hq3] at hq2
                      have HQ2 := Lib.hid hq2
                      rw [hq3]
                      clear hq2 hq3 hcut3 HP8
                      go_wp2_with (at_builtin; refine HP9.out.list_int 6 l (yn : Int) rfl HB9.out (by omega) rfl _ _ rfl rfl wc.heap.size rfl (cell_one_new _ _ _) ?_)
                      intro g7 cap7 w7' hm7 hb7 _
                      have hsz7 := hb7.size
                      have HP10 := Lib.hid hm7
                      have HB10 : Hid (B' ≤ w7'.heap.size) := Nat.le_trans HB9.out hsz7
                      clear hm7 hb7 hsz7
                      go_wp2_with fail
                      go_roundw
                      case rel =>
                        refine ⟨k + 1, q2, by omega, by go_num, rfl, l ++ [(yn : Int)], B', by simp [HLL.out], fun j hj => ?_, HQ2.out, HB10.out, HP10.out⟩
                        have hll := HLL.out
                        by_cases e : j = l.length
                        · rw [e, nth_last']; omega
                        · have hj' : j < l.length := by simp at hj; omega
                          rw [nth_snoc' hj']; exact HLB.out j hj'
                      case measure => simp [intOf]; omega
                · as_aux_lemma =>
                    obtain rfl : m = k := by omega
                    have hgo : goneErr C l = 0 := gone_ok HCK.out (by have := HE.out.2.1; omega) (fun i hi => by have := hlb i hi; have := HE.out.1; omega)
                    have hgb : goneB C l = q := by
                      unfold goneB
                      rw [hll, hq]; rfl
                    have hwi : IsInts wr wr.heap.size (.slice (some ⟨gw, 0, none⟩) (m + 1) cw) l := by
                      have h6 : wr.ownsRow B' 3 1 (.slice (some ⟨gw, 0, none⟩) (m + 1) cw) l.length (intsV l) := by rw [hll]; exact hP6.at 6 rfl
                      refine nums_of_owns h6 (fun x hx => ?_) (by omega)
                      obtain ⟨i, hi, rfl⟩ := List.mem_iff_getElem.1 hx
                      have := hlb i hi
                      rw [nth_eq hi] at this
                      unfold I64; omega
                    obtain ⟨f0, hf0⟩ : ∃ f0 : Nat, nth l 0 = f0 := ⟨(nth l 0).toNat, by have := hlb 0 (by omega); omega⟩
                    obtain ⟨fm, hfm⟩ : ∃ fm : Nat, nth l m = fm := ⟨(nth l m).toNat, by have := hlb m (by omega); omega⟩
                    have hf0n : f0 < n := by have := hlb 0 (by omega); omega
                    have hfmn : fm < n := by have := hlb m (by omega); omega
                    have hsteps : q = true → (org C m fm).testBit f0 = true := fun h => by
                      have h1 := steps_come (okCol_of HCK.out) (fun i hi => by have := hlb i hi; have := HE.out.1; omega) (by omega) m (by omega) (by rw [← hq]; exact h)
                      rw [hf0, hfm, Int.toNat_natCast, Int.toNat_natCast] at h1
                      rw [org_come (okCol_of HCK.out) m fm f0 (by have := HE.out.1; omega) (by have := HE.out.1; omega) (by have := HE.out.2.1; omega)]
                      exact h1
                    have HST := Lib.hid hsteps
                    have HGO := Lib.hid (And.intro hgo hgb)
                    have HWI := Lib.hid hwi
                    have HP6 := Lib.hid hP6
                    have HFM := Lib.hid (And.intro hf0 hfm)
                    have HAM := Lib.hid (asked_ok HCK.out (h := fm) (m := m) (by have := HE.out.1; omega) (by have := HE.out.2.1; omega))
                    obtain ⟨k0, k1, k2, k3⟩ := four_at (HP6.out.at 0 rfl)
                    clear hll hlb hq hB' hwc hP6 hgo hgb hwi hf0 hfm hsteps
                    go_wp2_with fail
                    refine (Gone_good C _ _ _ _ _ l wr (HCOL.out _ (HP6.out.left (qs := [_]))) HWI.out HGO.out.1).mono ?_
                    rintro e w7 ⟨rfl, hb7⟩
                    rw [HGO.out.2]
                    have HP7 := Lib.hid (HP6.out.below hb7).drew
                    clear hb7 k0 k1 k2 k3
                    go_upto_region 40 with (fail)
                    have hmm : (m : Int) < (m : Int) + 1 := by omega
                    have hcw0 : ∀ W, PW w W (madeCol b5 p2 v2 xs2 B (.slice r0 n qr) (.slice t0 n qt) (.slice u0 rs.length qu) (.slice n0 N.length qn) n rooms traps rs nb N ++ [pRow B' 3 1 (m + 1) (.slice (some ⟨gw, 0, none⟩) (m + 1) cw) (intsV l)]) → ∀ j, j < m + 1 → W.cell? ⟨gw, j, none⟩ = some (.int .i64 (nth l j)) := fun W H j hj =>
                      (IntBlk.of_owns (H.at 6 rfl) HLL.out (fun _ _ => rfl)).cell hj
                    have HCW := Lib.hid hcw0
                    have hC : BoxC5 b5 gw m (.slice r0 n qr) (.slice t0 n qt) (.slice u0 rs.length qu) (.slice n0 N.length qn) (.int .i64 fm) w7.drew := by
                      obtain ⟨a0, a1, a2, a3⟩ := four_at (HP7.out.at 0 rfl)
                      exact ⟨a0, a1, a2, a3, by rw [← HFM.out.2]; exact hcw0 _ HP7.out m (by omega)⟩
                    clear hcw0
                    refine wp_region_noPanic ?_
                    refine anyL_start (S := Till [] (BoxC5 b5 gw m (.slice r0 n qr) (.slice t0 n qt) (.slice u0 rs.length qu) (.slice n0 N.length qn) (.int .i64 fm))) (by kernel_rfl) (fun _ => hC) (fun hT => ?_)
                    refine takeL0 (i := 1) (d := 192) (v := ?_) rfl rfl (by kernel_rfl) (by kernel_rfl) (by kernel_rfl) (by kernel_rfl) (fun _ _ _ _ _ h => h) (by rfl) ?_ (fun _ => hC) ?_
                    rotate_left
                    · intro w
                      go_simp
                      try with_reducible rfl
                    (try simp only [Act.put, List.setIfInBounds_toArray, List.set_cons_zero, List.set_cons_succ])
                    refine takeL0 (i := 2) (d := 193) (v := ?_) rfl rfl (by kernel_rfl) (by kernel_rfl) (by kernel_rfl) (by kernel_rfl) (fun _ _ _ _ _ h => h) (by rfl) ?_ (fun _ => hC) ?_
                    rotate_left
                    · intro w
                      go_simp
                      try with_reducible rfl
                    (try simp only [Act.put, List.setIfInBounds_toArray, List.set_cons_zero, List.set_cons_succ])
                    refine takeL0 (i := 3) (d := 194) (v := ?_) rfl rfl (by kernel_rfl) (by kernel_rfl) (by kernel_rfl) (by kernel_rfl) (fun _ _ _ _ _ h => h) (by rfl) ?_ (fun _ => hC) ?_
                    rotate_left
                    · intro w
                      go_simp
                      try with_reducible rfl
                    (try simp only [Act.put, List.setIfInBounds_toArray, List.set_cons_zero, List.set_cons_succ])
                    refine takeL0 (i := 5) (d := 196) (v := ?_) rfl rfl (by kernel_rfl) (by kernel_rfl) (by kernel_rfl) (by kernel_rfl) (fun _ _ _ _ _ h => h) (by rfl) ?_ (fun _ => hC) ?_
                    rotate_left
                    · intro w
                      go_simp
                      try with_reducible rfl
                    (try simp only [Act.put, List.setIfInBounds_toArray, List.set_cons_zero, List.set_cons_succ])
                    refine takeL (i := 0) (d := 191) (v := ?_) rfl rfl (by kernel_rfl) (by kernel_rfl) (by kernel_rfl) (by kernel_rfl) (by kernel_rfl) (by kernel_rfl) (fun _ _ _ _ _ h => h) (by rfl) ?_ hC ?_
                    rotate_left
                    · intro w hSw
                      (try dsimp only at hSw)
                      obtain ⟨hS0, hS1, hS2, hS3, hS4⟩ := hSw
                      go_simp
                      try with_reducible rfl
                    (try simp only [Act.put, List.setIfInBounds_toArray, List.set_cons_zero, List.set_cons_succ])
                    refine takeL (i := 4) (d := 195) (v := ?_) rfl rfl (by kernel_rfl) (by kernel_rfl) (by kernel_rfl) (by kernel_rfl) (by kernel_rfl) (by kernel_rfl) (fun _ _ _ _ _ h => h) (by rfl) ?_ hC ?_
                    rotate_left
                    · intro w hSw
                      (try dsimp only at hSw)
                      obtain ⟨hS0, hS1, hS2, hS3, hS4⟩ := hSw
                      go_simp
                      try with_reducible rfl
                    (try simp only [Act.put, List.setIfInBounds_toArray, List.set_cons_zero, List.set_cons_succ])
                    refine nextL (i := 6) rfl (by kernel_rfl) (fun K hK => ?_)
                    go_simp
                    refine (Origins_good C _ _ _ _ fm m w7.drew (HCOL.out _ (HP7.out.left (qs := [_]))) HAM.out).mono ?_
                    rintro e w8 ⟨ov, rfl, ho8, hb8⟩
                    rw [Int.toNat_natCast, Int.toNat_natCast] at ho8
                    have HP8 := Lib.hid (HP7.out.below hb8)
                    have HO8 := Lib.hid ho8
                    clear hC
                    have hC : BoxC5 b5 gw m (.slice r0 n qr) (.slice t0 n qt) (.slice u0 rs.length qu) (.slice n0 N.length qn) (.int .i64 fm) w8 := by
                      obtain ⟨a0, a1, a2, a3⟩ := four_at (HP8.out.at 0 rfl)
                      exact ⟨a0, a1, a2, a3, by rw [← HFM.out.2]; exact HCW.out _ HP8.out m (by omega)⟩
                    clear ho8 hb8
                    go_simp
                    refine hK.out _ _ (fun _ => hC) ?_
                    clear hK K
                    (try simp only [Act.put, List.setIfInBounds_toArray, List.set_cons_zero, List.set_cons_succ])
                    refine takeL0 (i := 7) (d := 190) (v := ?_) rfl rfl (by kernel_rfl) (by kernel_rfl) (by kernel_rfl) (by kernel_rfl) (fun _ _ _ _ _ h => h) (by rfl) ?_ (fun _ => hC) ?_
                    rotate_left
                    · intro w
                      go_simp
                      try with_reducible rfl
                    (try simp only [Act.put, List.setIfInBounds_toArray, List.set_cons_zero, List.set_cons_succ])
                    refine takeL0 (i := 8) (d := 198) (v := ?_) rfl rfl (by kernel_rfl) (by kernel_rfl) (by kernel_rfl) (by kernel_rfl) (fun _ _ _ _ _ h => h) (by rfl) ?_ (fun _ => hC) ?_
                    rotate_left
                    · intro w
                      go_simp
                      try with_reducible rfl
                    (try simp only [Act.put, List.setIfInBounds_toArray, List.set_cons_zero, List.set_cons_succ])
                    refine takeL0 (i := 9) (d := 199) (v := ?_) rfl rfl (by kernel_rfl) (by kernel_rfl) (by kernel_rfl) (by kernel_rfl) (fun _ _ _ _ _ h => h) (by rfl) ?_ (fun _ => hC) ?_
                    rotate_left
                    · intro w
                      go_simp
                      try with_reducible rfl
                    (try simp only [Act.put, List.setIfInBounds_toArray, List.set_cons_zero, List.set_cons_succ])
                    refine takeL0 (i := 10) (d := 28) (v := ?_) rfl rfl (by kernel_rfl) (by kernel_rfl) (by kernel_rfl) (by kernel_rfl) (fun _ _ _ _ _ h => h) (by rfl) ?_ (fun _ => hC) ?_
                    rotate_left
                    · intro w
                      go_simp
                      try with_reducible rfl
                    (try simp only [Act.put, List.setIfInBounds_toArray, List.set_cons_zero, List.set_cons_succ])
                    refine takeL0 (i := 11) (d := 29) (v := ?_) rfl rfl (by kernel_rfl) (by kernel_rfl) (by kernel_rfl) (by kernel_rfl) (fun _ _ _ _ _ h => h) (by rfl) ?_ (fun _ => hC) ?_
                    rotate_left
                    · intro w
                      go_simp
                      try with_reducible rfl
                    (try simp only [Act.put, List.setIfInBounds_toArray, List.set_cons_zero, List.set_cons_succ])
                    refine anyL_done (by kernel_rfl) ?_ _
                    refine NoPanic.normal ?_
                    clear hC hT
                    have c0 : w8.cell? ⟨gw, 0, none⟩ = some (.int .i64 f0) := by rw [← HFM.out.1]; exact HCW.out _ HP8.out 0 (by omega)
                    have hm0 : (0 : Int) < (m : Int) + 1 := by omega
                    cases q
                    · go_wp2_with fail
                      go_roundw
                      case rel => exact ⟨d + 1, by omega, by go_num, HP8.out.left (qs := [_])⟩
                      case measure => simp [intOf]; omega
                    · have HCT : Hid (anyB (isAt (natsI (members (org C m fm))) (f0 : Int)) (natsI (members (org C m fm))).length = true) := (contains_bit (by omega)).trans (HST.out rfl)
                      go_wp2_with fail
                      refine (contains_any ov _ f0 w8 HO8.out).mono ?_
                      rintro e w9 ⟨rfl, rfl⟩
                      rw [HCT.out]
                      go_wp2_with fail
                      go_roundw
                      case rel => exact ⟨d + 1, by omega, by go_num, HP8.out.left (qs := [_])⟩
                      case measure => simp [intOf]; omega
            · obtain rfl : d = 3 := by omega
              clear HR2
              go_wp2_with fail
              go_roundw
              case rel => exact ⟨m + 1, by omega, by go_num, HR.out⟩
              case measure => simp [intOf]; omega
    · obtain rfl : m = N.length := by omega
      have HPL := Lib.hid HR.out.low
      clear HR HP
      go_wp2_with fail
      refine (awake_any wr).mono ?_
      rintro e w6 ⟨rfl, hb6⟩
      go_wp2_with fail
      go_ret
      exact ⟨rfl, HPL.out.trans (hb6.mono HPL.out.size)⟩
end Go.Proofs.Ytnhifinfjfpoiaa

namespace Go.Proofs.Ytnhifinfjfpoiaa
open Go.RowKit Go.ChangeShapes Go.WideShapes Go.ChangeAt

theorem ownKnob_none : ownKnob Try.prog.godebug = none := by kernel_rfl
theorem laidOut_yes : laidOutB Try.prog = true := by kernel_rfl

set_option maxRecDepth 100000 in
theorem ratGone_lifted (os : Os) (started : os.Started) (H : Type) (enc : TypeId × Value → H) :
    ReturnsInHanded {} Try.checked os 13 .any (Rows.ratGoneSpec.pre6 enc Try.prog Try.f13 Rows.ratGoneRow.domain false) (Rows.ratGoneSpec.post enc Try.prog Try.f13 false true false false) := by
  refine returnsInHanded_of_change_sized (C := Try.checked) ownKnob_none started (by kernel_rfl) Try.func13
    (ChangeSpec.witness6 (enc := enc) (C := Try.checked) false ⟨#[], #[.slice none 0 0, .slice none 0 0], []⟩ 8 (by kernel_rfl) (by kernel_rfl) (by kernel_rfl) (by kernel_rfl)) ?_
  intro W base args ds gs before hval0 hW0 _ hsz0 _
  have hval : ∀ (j : Nat) t v, Try.f13.params[j]? = some t → args[j]? = some v → Value.okWide Try.prog W .any base t v := hval0
  have hsz : (DataW.weightsEach Try.prog (Try.f13.params.toList ++ Rows.ratGoneSpec.plain.varTypes Try.prog) (ds ++ gs)).all (· ≤ reachBytes) = true := hsz0
  have hW := hW0
  obtain ⟨p, q, hA0, hV, rfl, hfz, hnd⟩ := hW
  have hA : DataW.TrodAll enc Try.prog W 0 (fun _ => true) true Try.f13.params.toList args.toList ds p := hA0
  rw [Try.params13] at hA hval hsz
  obtain ⟨v0, v1, d0, d1, p0, p1, rfl, rfl, rfl, h0, h1⟩ := trodAll_two hA
  obtain ⟨rfl, rfl⟩ := trodVars_none hV
  have k0 := h0
  have k1 := h1
  obtain ⟨b0, hb0⟩ := open_bytes (hval 0 _ v0 rfl rfl) h0 (fun m hm => by
    have := List.all_eq_true.1 hsz m (DataW.weights_mem_each (j := 0) rfl rfl m hm)
    simpa using this)
  obtain ⟨b1, hb1⟩ := open_bytes (hval 1 _ v1 rfl rfl) h1 (fun m hm => by
    have := List.all_eq_true.1 hsz m (DataW.weights_mem_each (j := 1) rfl rfl m hm)
    simpa using this)
  refine (ratGone_any v0 v1 b0 b1 W hb0 hb1).mono fun e W' ⟨he, hb⟩ => ?_
  subst he
  have hlt0 : ∀ x ∈ p0, x.block < W.heap.size := fun x hx => hW0.lt x (by simp [hx])
  have s0 := Below.trod laidOut_yes (by kernel_rfl) (of_decide_eq_true (by kernel_rfl)) k0 hb hlt0
  have hlt1 : ∀ x ∈ p1, x.block < W.heap.size := fun x hx => hW0.lt x (by simp [hx])
  have s1 := Below.trod laidOut_yes (by kernel_rfl) (of_decide_eq_true (by kernel_rfl)) k1 hb hlt1
  exact ⟨_, rfl, _, _, _, [], _, _, hW0, trodAll_mk1 (shut_bool Try.underlying4 true), trodAll_mk2 s0 s1, rfl, hb.frame _, fun h => by cases h⟩

theorem ratGone_holds : Rows.RatGoneSaid :=
  OpenClaim.holds_of_wide 13 Try.f13 rfl rfl rfl rfl rfl rfl rfl ⟨rfl, rfl, rfl, rfl, rfl⟩ rfl rfl rfl rfl rfl (by kernel_rfl) Try.func13 (by kernel_rfl)
    (of_decide_eq_true (by kernel_rfl)) (by unfold Func.isWrapper; first | (rw [if_pos (by decide +kernel)]; kernel_rfl) | (rw [if_neg (by decide +kernel)]; exact ⟨rfl, rfl⟩))
    (fun os started H enc _ => ratGone_lifted os started H enc)
end Go.Proofs.Ytnhifinfjfpoiaa
