/- Contract of rat.Starts. Contracts of slices.Compare, of the comparison of two lists of houses, and of taste.best. Contract of taste.best: the best list of houses of a set of which something is so. Contract of the test of Baits: do baits in some houses reach all houses of a set? -/
import Derived.Test.YtnhifinfjfpoiaaK05
import Derived.Laws.EntriesVeiled
import Derived.Shelf.RegionOpen
namespace Go.Proofs.Ytnhifinfjfpoiaa
open Go.RowKit
set_option linter.unusedVariables false

def ownTo (nl : List (Int × Int)) (h : Nat) : Nat → Int
  | 0 => 0
  | k + 1 => if (frm nl k).testBit h = true then ownTo nl h k + (nthP nl k).1 else ownTo nl h k
def startOwn (c : Col) (h : Nat) : Int := if (unionN (leftC c)).testBit h = true then nth c.rooms h else ownTo (needsC c) h (needsC c).length
def startOf (c : Col) (h : Nat) : Int × Int := (wrap64 ((fitX c).all - (shareF (needsC c) (c.rooms.set h 0)).all), min (startOwn c h) (nth c.rooms h))
def startsTo (c : Col) (k : Nat) : List (Int × Int) := (List.range k).map (startOf c)
/-- How many rats have come from each house. -/
def startsC (c : Col) : List (Int × Int) := startsTo c c.rooms.length
theorem startsTo_succ (c : Col) (k : Nat) : startsTo c (k + 1) = startsTo c k ++ [startOf c k] := by simp [startsTo, List.range_succ]
theorem startsTo_len (c : Col) (k : Nat) : (startsTo c k).length = k := by simp [startsTo]
theorem ownTo_bound {nl : List (Int × Int)} (h : ∀ i, i < nl.length → 0 ≤ (nthP nl i).1 ∧ (nthP nl i).1 ≤ 9) (m : Nat) : ∀ k, k ≤ nl.length → 0 ≤ ownTo nl m k ∧ ownTo nl m k ≤ 9 * k
  | 0, _ => ⟨by simp [ownTo], by simp [ownTo]⟩
  | k + 1, hk => by
    have h1 := ownTo_bound h m k (by omega)
    have h2 := h k (by omega)
    unfold ownTo
    split <;> constructor <;> omega
theorem made_open {w : World} {b e g n : Nat} {xs : List Value} (h : w.ownsRow b e 1 (.slice (some ⟨g, 0, none⟩) n n) n xs) : ∃ L : List Value, w.heap[g]? = some (.cells L.toArray e (0, 0)) ∧ L.length = n := by
  obtain ⟨_, h | ⟨g', cap, cur, e', _, hg, _, _, hs, _⟩⟩ := h
  · cases h.1
  · cases e'
    exact ⟨cur.toList, by rw [Array.toArray_toList]; exact hg, by simp [hs]⟩
theorem splice_all (L M : List Value) (h : L.length = M.length) : splice L 0 M = M := by simp [splice, h]
theorem intsV_set (l : List Int) (k : Nat) : (intsV l).toArray.setIfInBounds k (.int .i64 0) = (intsV (l.set k 0)).toArray := by
  apply Array.ext'
  simp [intsV, List.map_set]
theorem ints_of_cells {w : World} {g n : Nat} {l : List Int} {e : Nat} (h : w.heap[g]? = some (.cells (intsV l).toArray e (0, 0))) (hn : l.length = n) (hl : ∀ x ∈ l, I64 x) (hlen : n ≤ 140737488355328) : IsInts w w.heap.size (.slice (some ⟨g, 0, none⟩) n n) l := by
  subst hn
  refine ⟨⟨_, _, rfl, Nat.le_refl _, hlen, .inr ⟨g, 0, rfl, (Array.getElem?_eq_some_iff.1 h).1, fun j hj => ?_⟩⟩, hl⟩
  have h1 := cell_of_row w g (0 + j) _ _ _ h
  refine h1.trans ?_
  rw [Nat.mul_one] at hj
  simp [intsV, nth, hj]
theorem infoSpan : (Try.prog.info? 49).map (fun i => (i.zero, i.size, i.bytes)) = some (some (.agg #[.int .i64 0, .int .i64 0]), 2, 16) := by kernel_rfl

set_option maxRecDepth 100000 in
set_option maxHeartbeats 4000000 in
theorem Starts_ok (c : Col) (r t u n : Value) (w : World) (hc : ColAt w w.heap.size r t u n c) (hk : fitErr c = 0) :
    Calls Try.prog 54 #[.agg #[r, t, u, n]] w fun e w' => ∃ v, e = .returned (.tuple #[v, .int .i64 0]) ∧ IsPairs w' w'.heap.size v (startsC c) ∧ Below w.heap.size w w' := by
  have ok := okCol_of (fit_parts hk).1
  have o2 := ok.houses.2
  have hBW : Below w.heap.size w (w.alloc (.cells #[r, t, u, n] 26)) := (Below.refl w.heap.size w).alloc (Nat.le_refl _) _
  have hcA := (hc.below hBW (Nat.le_refl _)).mono (B' := (w.alloc (.cells #[r, t, u, n] 26)).heap.size) (by simp)
  have HCK := Lib.hid (fitting_ok c r t u n _ hcA hk)
  have c0 : (w.alloc (.cells #[r, t, u, n] 26)).cell? ⟨w.heap.size, 0, none⟩ = some r := by simp [go_sem]
  have HI0 := Lib.hid (info_parts infoInt)
  have HI1 := Lib.hid (info_parts infoSpan)
  obtain ⟨hr, htr, hu, hn⟩ := hc
  have HRI := Lib.hid hr.2
  obtain ⟨ar, cr, rfl, _, _, hr3⟩ := hr.open
  obtain ⟨at_, ct, rfl, _⟩ := htr.open
  obtain ⟨au, cu, rfl, _⟩ := hu.open
  obtain ⟨an, cn, rfl, _⟩ := hn.open
  have HB := Lib.hid hBW
  have HOK := Lib.hid ok
  have HR3 := Lib.hid hr3
  clear hr htr hu hn hBW hk hcA ok hr3
  go_enter Try.func54, Try.ntmps54
  go_wp2_with fail
  refine HCK.out.mono ?_
  rintro e w1 ⟨p, rfl, hb1, hd⟩
  have c1 := (hb1.cell (p := ⟨w.heap.size, 0, none⟩) (by simp)).trans c0
  have hlt0 : w.heap.size < w1.heap.size := Nat.lt_of_lt_of_le (by simp) hb1.size
  have HD := Lib.hid (And.intro (HB.out.trans (hb1.mono (by simp))) (And.intro hd c1))
  clear hb1 hd c0 c1
  have hkey : ∀ w2 : World, Below w1.heap.size w1 w2 → w2.cell? ⟨w.heap.size, 0, none⟩ = some (.slice ar c.rooms.length cr) := fun w2 h => (h.cell (p := ⟨w.heap.size, 0, none⟩) hlt0).trans HD.out.2.2
  have HK := Lib.hid hkey; clear hkey
  have hul := unionTo_lt (fun j _ => leftC_lt c o2 j) 6 (by omega)
  have HUL : Hid (unionN (leftC c) < 64) := hul
  clear hul
  go_wp2_with (first | (go_at_call 98; refine (left_any c p _ HD.out.2.1).mono ?_; rintro e w2 ⟨rfl, hb2⟩; have H2 := Lib.hid hb2; clear hb2) | (go_at_call 109; refine (union_any (leftC c) (fun j _ => leftC_lt c o2 j) _).mono ?_; rintro e w3 ⟨rfl, hb3⟩; have H3 := Lib.hid (H2.out.trans (hb3.mono H2.out.size)); have c3 := HK.out _ H3.out; clear hb3))
  go_loopw [8, 34] (fun v i wr => ∃ k : Nat, k ≤ c.rooms.length ∧ i = .int .i64 k ∧ Hid (wr.ownsRow w1.heap.size 49 2 v k (pairsV (startsTo c k)) ∧ Below w1.heap.size w1 wr)) (fun _ i _ => c.rooms.length - (intOf i).toNat)
  case atStart => exact ⟨0, Nat.zero_le _, rfl, World.ownsRow_nil _ _ _ _, H3.out⟩
  case round =>
    clear c3
    obtain ⟨k, hk, rfl, hrel⟩ := hrel
    obtain ⟨i0, hi, hz0, hz1, hz2⟩ := HI0.out
    by_cases hlt : k < c.rooms.length
    · have hki : (k : Int) < (c.rooms.length : Int) := by omega
      have hk6 : k < 6 := by omega
      have hsz1 := hrel.out.2.size
      obtain ⟨br, offr, rfl, hbr, hcr⟩ := HR3.out k (by omega)
      have hBr := HD.out.1.trans (hrel.out.2.mono HD.out.1.size)
      have d2 := (hBr.cell (p := ⟨br, offr + k, none⟩) hbr).trans hcr
      have d0 := HK.out wr hrel.out.2
      have hsrc : ∀ W : World, Below wr.heap.size wr W → ∀ j v, (intsV c.rooms)[j]? = some v → W.cell? ((⟨br, offr, none⟩ : Addr).add j) = some v := fun W hW j v hv => by
        have hj : j < c.rooms.length := by have := (List.getElem?_eq_some_iff.1 hv).1; simpa [intsV] using this
        obtain ⟨b', off', e', hb', hc⟩ := HR3.out j hj
        cases e'
        have ha : ((⟨br, offr, none⟩ : Addr).add j) = ⟨br, offr + j, none⟩ := by unfold Addr.add; split <;> simp_all
        rw [ha]
        refine (hW.cell (p := ⟨br, offr + j, none⟩) (Nat.lt_of_lt_of_le hb' hBr.size)).trans ((hBr.cell (p := ⟨br, offr + j, none⟩) hb').trans (hc.trans ?_))
        rw [← hv]
        simp [intsV, hj, nth]
      have HSRC := Lib.hid hsrc
      have hone : ∀ v ∈ intsV c.rooms, v.oneCell' = true := by intro v hv; obtain ⟨x, _, rfl⟩ := List.mem_map.1 hv; rfl
      have HONE := Lib.hid hone
      clear hsrc hcr hone
      go_wp2_with (first | (at_make; refine wpList_make_full _ rfl _ _ 22 rfl wr.heap.size 3 i0 _ 1 Try.underlying22 hi hz0 hz1 .i64 .i64 _ _ c.rooms.length rfl rfl rfl rfl (by rw [hz2]; omega) (by unfold maxLen; omega) (Nat.le_refl _) ?_; intro w5 hown5 hgrow5; obtain ⟨L, hL, hLn⟩ := made_open hown5; have hb5 := below_grown (Below.refl wr.heap.size wr) hgrow5 (by simp) (Nat.le_refl _); have H5 := Lib.hid (And.intro hL (And.intro hLn hb5)); have d5 := HK.out w5 (hrel.out.2.trans (hb5.mono hsz1)); clear hown5 hgrow5 hL hb5) | (refine wpList_copy_splice (o := ⟨some 46, _, _, _, _, _⟩) rfl _ _ 22 22 rfl 3 Try.underlying22 (by kernel_rfl) (some ⟨wr.heap.size, 0, none⟩) (some ⟨br, offr, none⟩) c.rooms.length c.rooms.length c.rooms.length cr rfl rfl wr.heap.size 0 L 3 H5.out.1 (intsV c.rooms) (by simp [intsV]) (fun h => ⟨rfl, _, rfl, HSRC.out _ H5.out.2.2⟩) (by rw [hLn]; simp [intsV]) HONE.out wr.heap.size wr H5.out.2.2 (Nat.le_refl _) ?_; intro w6 hs6 hb6; have hs6' := hs6.out; rw [splice_all L (intsV c.rooms) (by rw [hLn]; simp [intsV])] at hs6'; have e6 : w6.cell? ⟨wr.heap.size, k, none⟩ = some (.int .i64 (nth c.rooms k)) := (cell_of_row w6 wr.heap.size k _ _ _ hs6').trans (by simp [intsV, nth, hlt]); have e7 := frozen_of_row w6 wr.heap.size k _ _ hs6'; have H6 := Lib.hid (And.intro hs6' hb6); clear hs6 hs6' hb6))
      have h7 : (w6.setCell ⟨wr.heap.size, k, none⟩ (.int .i64 0)).heap[wr.heap.size]? = some (.cells (intsV (c.rooms.set k 0)).toArray 3 (0, 0)) := by rw [heap_setCell_same w6 _ k _ _ _ H6.out.1, intsV_set]
      have hb7 : Below wr.heap.size wr (w6.setCell ⟨wr.heap.size, k, none⟩ (.int .i64 0)) := H6.out.2.setCell (p := ⟨wr.heap.size, k, none⟩) (Nat.le_refl _) _
      obtain ⟨W7, hW7⟩ : ∃ W7, w6.setCell ⟨wr.heap.size, k, none⟩ (.int .i64 0) = W7 := ⟨_, rfl⟩
      rw [hW7] at h7 hb7 ⊢
      clear hW7 e6 e7 d5 d0 d2
      have hdr := HD.out.2.1.below hrel.out.2
      have hd7 := hdr.below hb7
      have hl7 : ∀ x ∈ c.rooms.set k 0, I64 x := fun x hx => by
        rcases List.mem_or_eq_of_mem_set hx with hx | rfl
        · exact HRI.out x hx
        · constructor <;> decide
      have HS := Lib.hid (share_none c p (c.rooms.set k 0) _ W7 hd7 (ints_of_cells (n := c.rooms.length) h7 (by simp) hl7 (by omega)) (by simp; omega))
      have HD7 := Lib.hid (And.intro hd7 hb7)
      clear hdr hd7 hb7 h7 hl7
      go_wp2_with (first | (go_at_call 115; refine HS.out.mono ?_; rintro e w8 ⟨s, g, nv, rfl, g1, g2, g3⟩; have H8 := Lib.hid (And.intro (HD7.out.1.below g2) (HD7.out.2.trans (g2.mono HD7.out.2.size))); clear g1 g2 g3) | (go_at_call 113; refine (caught_any c p _ H8.out.1).mono ?_; rintro e w9 ⟨v, rfl, hown, hb9⟩; obtain ⟨a0, cap0, rfl⟩ := owns_slice hown; have H9 := Lib.hid (And.intro hown (H8.out.2.trans (hb9.mono H8.out.2.size))); clear hown hb9))
      have hn := pairs_of_owns H9.out.1 (needsC_i64 HOK.out) (by have := needsC_len HOK.out; omega)
      have hnlen := needsC_len HOK.out
      obtain ⟨a0', cap0', e', n1, n2, n3⟩ := hn.open
      cases e'
      have HN3 := Lib.hid n3
      have HB9 := Lib.hid H9.out.2
      obtain ⟨wo, rfl⟩ : ∃ wo : World, wo = wr := ⟨_, rfl⟩
      have HREL := Lib.hid hrel.out
      clear hn n3 hrel
      go_loopw [16, 61] (fun a i wq => ∃ j : Nat, j ≤ (needsC c).length ∧ i = .int .i64 j ∧ a = .int .i64 (ownTo (needsC c) k j) ∧ Hid (Below w9.heap.size w9 wq)) (fun _ i _ => (needsC c).length - (intOf i).toNat)
      case atStart => exact ⟨0, Nat.zero_le _, rfl, rfl, Below.refl _ _⟩
      case round =>
        obtain ⟨j, hj, rfl, rfl, hB4⟩ := hrel
        by_cases hjt : j < (needsC c).length
        · have hji : (j : Int) < (needsC c).length := by omega
          obtain ⟨bn, offn, rfl, hbn, m1, m2⟩ := HN3.out j hjt
          have d1 := (hB4.out.cell (p := ⟨bn, offn + j * 2, none⟩) hbn).trans m1
          have d2 := (hB4.out.cell (p := ⟨bn, offn + j * 2 + 1, none⟩) hbn).trans m2
          obtain ⟨f1, f2⟩ := needs_frm o2 j hjt
          rw [f1] at d2
          have hrk := ownTo_bound (needs_rats HOK.out) k j hj
          have hrr := needs_rats HOK.out j hjt
          have hsucc : ownTo (needsC c) k (j + 1) = if (frm (needsC c) j).testBit k = true then ownTo (needsC c) k j + (nthP (needsC c) j).1 else ownTo (needsC c) k j := rfl
          have hsum : ∀ (b : Nat) (W : World), W.cell? ⟨b, 0, none⟩ = some (.int .i64 (ownTo (needsC c) k j)) → W.cell? ⟨b, 1, none⟩ = some (.int .i64 (nthP (needsC c) j).1) → Calls Try.prog 112 #[.slice (some ⟨b, 0, none⟩) 2 2] W fun e w' => e = .returned (.int .i64 (ownTo (needsC c) k j + (nthP (needsC c) j).1)) ∧ W = w' := fun b W m1 m2 =>
            sum_two b 2 _ _ (by constructor <;> omega) (by constructor <;> omega) (by constructor <;> omega) (by omega) W m1 m2
          have HSUM := Lib.hid hsum
          have HSU := Lib.hid hsucc
          have hle4 := hB4.out.size
          clear hsum hsucc m1 m2 hrk hrr
          cases hz : (frm (needsC c) j).testBit k
          · have HZ := Lib.hid hz
            clear hz
            go_wp2_with (go_at_call 125; refine (has_as HZ.out f2 hk6 k rfl _).mono ?_; rintro e w5 ⟨rfl, rfl⟩)
            go_roundw
            case rel =>
              refine ⟨j + 1, by omega, by go_num, ?_, hB4.out.alloc hle4 _⟩
              rw [HSU.out, HZ.out]; rfl
            case measure => simp [intOf]; omega
          · have HZ := Lib.hid hz
            clear hz
            go_wp2_with (first | (go_at_call 125; refine (has_as HZ.out f2 hk6 k rfl _).mono ?_; rintro e w5 ⟨rfl, rfl⟩) | (go_at_call 112; refine (HSUM.out _ _ (by simp [go_sem]) (by simp [go_sem])).mono ?_; rintro e w5 ⟨rfl, rfl⟩))
            go_roundw
            case rel =>
              refine ⟨j + 1, by omega, by go_num, ?_, (hB4.out.alloc hle4 _).alloc (by simp; omega) _⟩
              rw [HSU.out, HZ.out]; rfl
            case measure => simp [intOf]; omega
        · obtain rfl : j = (needsC c).length := by omega
          have hOw : startOwn c k = if (unionN (leftC c)).testBit k = true then nth c.rooms k else ownTo (needsC c) k (needsC c).length := rfl
          have hSt : startOf c k = (wrap64 ((fitX c).all - (shareF (needsC c) (c.rooms.set k 0)).all), min (startOwn c k) (nth c.rooms k)) := rfl
          have hBf : Below wo.heap.size wo wr := H9.out.2.trans (hB4.out.mono H9.out.2.size)
          have HBF := Lib.hid hBf
          have hszf := hBf.size
          obtain ⟨i1, hi1, hy0, hy1, hy2⟩ := HI1.out
          have HST := Lib.hid (And.intro hOw hSt)
          clear hOw hSt hBf
          cases hu : (unionN (leftC c)).testBit k
          · have HU := Lib.hid hu
            clear hu
            by_cases hmn : ownTo (needsC c) k (needsC c).length ≤ nth c.rooms k
            ·
              have hv : startOf c k = (wrap64 ((fitX c).all - (shareF (needsC c) (c.rooms.set k 0)).all), ownTo (needsC c) k (needsC c).length) := by rw [HST.out.2, HST.out.1, HU.out, if_neg (by decide), Int.min_eq_left hmn]
              have HVV := Lib.hid hv
              clear hv
              have HO := Lib.hid ((owns_below HREL.out.1 HBF.out).alloc (.cells #[.int .i64 (wrap64 ((fitX c).all - (shareF (needsC c) (c.rooms.set k 0)).all)), .int .i64 (ownTo (needsC c) k (needsC c).length)] 49))
              go_wp2_with (first | (at_builtin; refine wpList_append_own _ rfl _ _ 82 rfl w1.heap.size 49 i1 (.agg #[.int .i64 0, .int .i64 0]) 2 16 Try.underlying82 hi1 hy0 hy1 hy2 rfl (by decide) _ _ _ rfl HO.out ⟨wr.heap.size, 0, none⟩ 1 1 [.int .i64 (wrap64 ((fitX c).all - (shareF (needsC c) (c.rooms.set k 0)).all)), .int .i64 (ownTo (needsC c) k (needsC c).length)] rfl rfl (cell_two_new _ _ _ _) (fun x hx => by simp at hx; rcases hx with rfl | rfl <;> rfl) (by unfold maxLen; omega) (by omega) (by simp; omega) ?_; intro v' wz hown' hgrow _; have HG := Lib.hid (And.intro hown' hgrow); clear hown' hgrow) | (go_at_call 125; refine (has_as HU.out HUL.out hk6 k rfl _).mono ?_; rintro e wh ⟨rfl, rfl⟩))
              all_goals try (exfalso; omega)
              all_goals
                go_roundw
                case rel =>
                  obtain ⟨hown', hgrow⟩ := HG.out
                  have hbA : Below w1.heap.size w1 (wr.alloc (.cells #[.int .i64 (wrap64 ((fitX c).all - (shareF (needsC c) (c.rooms.set k 0)).all)), .int .i64 (ownTo (needsC c) k (needsC c).length)] 49)) := (HREL.out.2.trans (HBF.out.mono hsz1)).alloc (by omega) _
                  refine ⟨k + 1, by omega, by go_num, ?_, below_grown hbA hgrow (fun r hr => (HO.out.lt r hr).1) (by simp; omega)⟩
                  rw [startsTo_succ, pairsV_app, HVV.out]
                  exact hown'
                case measure => simp [intOf]; omega
            ·
              have hv : startOf c k = (wrap64 ((fitX c).all - (shareF (needsC c) (c.rooms.set k 0)).all), nth c.rooms k) := by rw [HST.out.2, HST.out.1, HU.out, if_neg (by decide), Int.min_eq_right (by omega)]
              have HVV := Lib.hid hv
              clear hv
              have HO := Lib.hid ((owns_below HREL.out.1 HBF.out).alloc (.cells #[.int .i64 (wrap64 ((fitX c).all - (shareF (needsC c) (c.rooms.set k 0)).all)), .int .i64 (nth c.rooms k)] 49))
              go_wp2_with (first | (at_builtin; refine wpList_append_own _ rfl _ _ 82 rfl w1.heap.size 49 i1 (.agg #[.int .i64 0, .int .i64 0]) 2 16 Try.underlying82 hi1 hy0 hy1 hy2 rfl (by decide) _ _ _ rfl HO.out ⟨wr.heap.size, 0, none⟩ 1 1 [.int .i64 (wrap64 ((fitX c).all - (shareF (needsC c) (c.rooms.set k 0)).all)), .int .i64 (nth c.rooms k)] rfl rfl (cell_two_new _ _ _ _) (fun x hx => by simp at hx; rcases hx with rfl | rfl <;> rfl) (by unfold maxLen; omega) (by omega) (by simp; omega) ?_; intro v' wz hown' hgrow _; have HG := Lib.hid (And.intro hown' hgrow); clear hown' hgrow) | (go_at_call 125; refine (has_as HU.out HUL.out hk6 k rfl _).mono ?_; rintro e wh ⟨rfl, rfl⟩))
              all_goals try (exfalso; omega)
              all_goals
                go_roundw
                case rel =>
                  obtain ⟨hown', hgrow⟩ := HG.out
                  have hbA : Below w1.heap.size w1 (wr.alloc (.cells #[.int .i64 (wrap64 ((fitX c).all - (shareF (needsC c) (c.rooms.set k 0)).all)), .int .i64 (nth c.rooms k)] 49)) := (HREL.out.2.trans (HBF.out.mono hsz1)).alloc (by omega) _
                  refine ⟨k + 1, by omega, by go_num, ?_, below_grown hbA hgrow (fun r hr => (HO.out.lt r hr).1) (by simp; omega)⟩
                  rw [startsTo_succ, pairsV_app, HVV.out]
                  exact hown'
                case measure => simp [intOf]; omega
          · have HU := Lib.hid hu
            clear hu
            have hv : startOf c k = (wrap64 ((fitX c).all - (shareF (needsC c) (c.rooms.set k 0)).all), nth c.rooms k) := by rw [HST.out.2, HST.out.1, HU.out, if_pos rfl, Int.min_self]
            have HVV := Lib.hid hv
            clear hv
            have HO := Lib.hid ((owns_below HREL.out.1 HBF.out).alloc (.cells #[.int .i64 (wrap64 ((fitX c).all - (shareF (needsC c) (c.rooms.set k 0)).all)), .int .i64 (nth c.rooms k)] 49))
            go_wp2_with (first | (at_builtin; refine wpList_append_own _ rfl _ _ 82 rfl w1.heap.size 49 i1 (.agg #[.int .i64 0, .int .i64 0]) 2 16 Try.underlying82 hi1 hy0 hy1 hy2 rfl (by decide) _ _ _ rfl HO.out ⟨wr.heap.size, 0, none⟩ 1 1 [.int .i64 (wrap64 ((fitX c).all - (shareF (needsC c) (c.rooms.set k 0)).all)), .int .i64 (nth c.rooms k)] rfl rfl (cell_two_new _ _ _ _) (fun x hx => by simp at hx; rcases hx with rfl | rfl <;> rfl) (by unfold maxLen; omega) (by omega) (by simp; omega) ?_; intro v' wz hown' hgrow _; have HG := Lib.hid (And.intro hown' hgrow); clear hown' hgrow) | (go_at_call 125; refine (has_as HU.out HUL.out hk6 k rfl _).mono ?_; rintro e wh ⟨rfl, rfl⟩))
            all_goals try (exfalso; omega)
            all_goals
              go_roundw
              case rel =>
                obtain ⟨hown', hgrow⟩ := HG.out
                have hbA : Below w1.heap.size w1 (wr.alloc (.cells #[.int .i64 (wrap64 ((fitX c).all - (shareF (needsC c) (c.rooms.set k 0)).all)), .int .i64 (nth c.rooms k)] 49)) := (HREL.out.2.trans (HBF.out.mono hsz1)).alloc (by omega) _
                refine ⟨k + 1, by omega, by go_num, ?_, below_grown hbA hgrow (fun r hr => (HO.out.lt r hr).1) (by simp; omega)⟩
                rw [startsTo_succ, pairsV_app, HVV.out]
                exact hown'
              case measure => simp [intOf]; omega
    · obtain rfl : k = c.rooms.length := by omega
      go_wp2_with fail
      go_ret2
      refine ⟨_, rfl, pairs_of_owns (b := w1.heap.size) (e := 49) (by rw [startsC, startsTo_len]; exact hrel.out.1) ?_ (by rw [startsC, startsTo_len]; omega), HD.out.1.trans (hrel.out.2.mono HD.out.1.size)⟩
      intro q hq
      obtain ⟨h, hh, rfl⟩ := List.mem_map.1 hq
      have hh' := HOK.out.room h (List.mem_range.1 hh)
      refine ⟨wrap64_i64 _, ?_⟩
      have h0 : 0 ≤ startOwn c h := by
        unfold startOwn; split
        · exact hh'.1
        · exact (ownTo_bound (needs_rats HOK.out) h _ (Nat.le_refl _)).1
      show I64 (min (startOwn c h) (nth c.rooms h))
      have h1 : min (startOwn c h) (nth c.rooms h) ≤ nth c.rooms h := Int.min_le_right _ _
      have h2 : 0 ≤ min (startOwn c h) (nth c.rooms h) := Int.le_min.2 ⟨h0, hh'.1⟩
      constructor <;> omega
end Go.Proofs.Ytnhifinfjfpoiaa

namespace Go.Proofs.Ytnhifinfjfpoiaa
open Go.RowKit
set_option linter.unusedVariables false

def cmpL : List Int → List Int → Int
  | [], [] => 0
  | [], _ :: _ => -1
  | _ :: _, [] => 1
  | a :: l, b :: m => if a < b then -1 else if a > b then 1 else cmpL l m
def cmpI (a b : Int) : Int := if a < b then -1 else if a > b then 1 else 0
theorem cmp_any (a b : Int) (w : World) : Calls Try.prog 146 #[.int .i64 a, .int .i64 b] w fun e w' => e = .returned (.int .i64 (cmpI a b)) ∧ w = w' := by
  have hc : cmpI a b = if a < b then -1 else if a > b then 1 else 0 := rfl
  by_cases h1 : a < b
  · rw [hc, if_pos h1]
    clear hc
    go_enter Try.func146, Try.ntmps146
    go_wp2
    go_ret
    exact ⟨rfl, rfl⟩
  · by_cases h2 : b < a
    · rw [hc, if_neg h1, if_pos h2]
      clear hc
      go_enter Try.func146, Try.ntmps146
      go_wp2
      go_ret
      exact ⟨rfl, rfl⟩
    · rw [hc, if_neg h1, if_neg h2]
      clear hc
      go_enter Try.func146, Try.ntmps146
      go_wp2
      go_ret
      exact ⟨rfl, rfl⟩
theorem cmpL_step {l m : List Int} {k : Nat} (h1 : k < l.length) (h2 : k < m.length) : cmpL (l.drop k) (m.drop k) = if cmpI (nth l k) (nth m k) = 0 then cmpL (l.drop (k + 1)) (m.drop (k + 1)) else cmpI (nth l k) (nth m k) := by
  rw [List.drop_eq_getElem_cons h1, List.drop_eq_getElem_cons h2, nth_eq h1, nth_eq h2]
  unfold cmpI
  rw [cmpL]
  by_cases q1 : l[k] < m[k]
  · simp [q1]
  · by_cases q2 : l[k] > m[k]
    · simp [q1, q2]
    · simp [q1, q2]
theorem cmpL_nil {l : List Int} : cmpL [] l = if l.length = 0 then 0 else -1 := by cases l <;> simp [cmpL]
theorem cmpL_over {l : List Int} (h : 0 < l.length) : cmpL l [] = 1 := by cases l with
  | nil => simp at h
  | cons a l => rfl

set_option maxHeartbeats 1000000 in
theorem compare_any (a b : List Int) (va vb : Value) (w : World) (ha : IsInts w w.heap.size va a) (hb : IsInts w w.heap.size vb b) :
    Calls Try.prog 122 #[va, vb] w fun e w' => e = .returned (.int .i64 (cmpL a b)) ∧ w = w' := by
  obtain ⟨aa, ca, rfl, a1, a2, a3⟩ := ha.open
  obtain ⟨ab, cb, rfl, b1, b2, b3⟩ := hb.open
  have HA := Lib.hid a3; have HB := Lib.hid b3
  clear ha hb a3 b3
  go_enter Try.func122, Try.ntmps122
  go_wp2_with fail
  go_loopw [11] (fun i wr => ∃ k : Nat, k ≤ a.length ∧ k ≤ b.length ∧ i = .int .i64 k ∧ cmpL a b = cmpL (a.drop k) (b.drop k) ∧ w = wr) (fun i _ => a.length - (intOf i).toNat)
  case atStart => exact ⟨0, Nat.zero_le _, Nat.zero_le _, rfl, by simp, rfl⟩
  case round =>
    obtain ⟨k, hk, hk2, rfl, hcmp, rfl⟩ := hrel
    by_cases hlt : k < a.length
    · have hki : (k : Int) < a.length := by omega
      obtain ⟨ba, oa, rfl, _, m1⟩ := HA.out k hlt
      by_cases hlt2 : k < b.length
      · have hki2 : (k : Int) < b.length := by omega
        have hki3 : ¬ (b.length : Int) ≤ k := by omega
        obtain ⟨bb, ob, rfl, _, m2⟩ := HB.out k hlt2
        rw [cmpL_step hlt hlt2] at hcmp
        have hcc := cmp_any (nth a k) (nth b k)
        have HCC := Lib.hid hcc
        clear hcc
        by_cases hz : cmpI (nth a k) (nth b k) = 0
        · rw [hz] at HCC
          rw [if_pos hz] at hcmp
          have HCM := Lib.hid hcmp; clear hcmp hz
          go_wp2_with (go_at_call 146; refine (HCC.out _).mono ?_; rintro e w5 ⟨rfl, rfl⟩)
          go_roundw
          case rel => exact ⟨k + 1, by omega, by omega, by go_num, HCM.out, by simp⟩
          case measure => simp [intOf]; omega
        · rw [if_neg hz] at hcmp
          have HCM := Lib.hid hcmp
          have hz1 : (cmpI (nth a k) (nth b k) == 0) = false := by simpa using hz
          have hz2 : (cmpI (nth a k) (nth b k) != 0) = true := by simp [bne, hz1]
          clear hcmp hz
          go_wp2_with (go_at_call 146; refine (HCC.out _).mono ?_; rintro e w5 ⟨rfl, rfl⟩)
          go_ret
          exact ⟨ret_int HCM.out.symm, rfl⟩
      · have hki3 : (b.length : Int) ≤ k := by omega
        have hv : cmpL a b = 1 := by rw [hcmp, List.drop_eq_nil_of_le (by omega : b.length ≤ k)]; exact cmpL_over (by simp; omega)
        have HV := Lib.hid hv
        clear hcmp hv
        go_wp2_with fail
        go_ret
        exact ⟨ret_int HV.out.symm, rfl⟩
    · obtain rfl : k = a.length := by omega
      rw [List.drop_length, cmpL_nil] at hcmp
      by_cases hlt2 : a.length < b.length
      · have hki3 : (a.length : Int) < b.length := by omega
        rw [if_neg (by simp; omega)] at hcmp
        have HV := Lib.hid hcmp
        clear hcmp
        go_wp2_with fail
        go_ret
        exact ⟨ret_int HV.out.symm, rfl⟩
      · have hki3 : ¬ (a.length : Int) < b.length := by omega
        rw [if_pos (by simp; omega)] at hcmp
        have HV := Lib.hid hcmp
        clear hcmp
        go_wp2_with fail
        go_ret
        exact ⟨ret_int HV.out.symm, rfl⟩

/-- Fewer houses, or as many, and earlier ones. -/
def fewB (a b : List Int) : Bool := decide (a.length < b.length) || (decide (a.length = b.length) && decide (cmpL a b < 0))
theorem few_any (a b : List Int) (va vb : Value) (w : World) (ha : IsInts w w.heap.size va a) (hb : IsInts w w.heap.size vb b) :
    Calls Try.prog 121 #[va, vb] w fun e w' => e = .returned (.bool (fewB a b)) ∧ w = w' := by
  have HC := Lib.hid (compare_any a b va vb w ha hb)
  obtain ⟨aa, ca, rfl, a1, a2, a3⟩ := ha.open
  obtain ⟨ab, cb, rfl, b1, b2, b3⟩ := hb.open
  have hf : fewB a b = (decide (a.length < b.length) || (decide (a.length = b.length) && decide (cmpL a b < 0))) := rfl
  clear ha hb a3 b3
  by_cases h1 : a.length < b.length
  · have e1 : (a.length : Int) < b.length := by omega
    rw [show fewB a b = true by rw [hf]; simp [h1]]
    clear hf
    go_enter Try.func121, Try.ntmps121
    go_wp2_with fail
    all_goals (first | (refine ⟨fun _ h => (by cases h), ?_⟩; go_wp2_with fail) | skip)
    go_ret
    exact ⟨rfl, rfl⟩
  · have e1 : ¬ (a.length : Int) < b.length := by omega
    by_cases h2 : a.length = b.length
    · rw [show fewB a b = decide (cmpL a b < 0) by rw [hf]; simp [h2]]
      rw [← h2] at HC e1 ⊢
      clear hf h1 h2 b1 b2
      go_enter Try.func121, Try.ntmps121
      go_wp2_with (go_at_call 122; refine HC.out.mono ?_; rintro e w5 ⟨rfl, rfl⟩)
      go_ret
      exact ⟨rfl, rfl⟩
    · have e2 : ¬ (a.length : Int) = b.length := by omega
      rw [show fewB a b = false by rw [hf]; simp [h1, h2]]
      clear hf
      go_enter Try.func121, Try.ntmps121
      go_wp2_with fail
      go_ret
      exact ⟨rfl, rfl⟩
end Go.Proofs.Ytnhifinfjfpoiaa

namespace Go.Proofs.Ytnhifinfjfpoiaa
open Go.RowKit
set_option linter.unusedVariables false
attribute [local go_sem] Oper.semAt_some

theorem ints_nil (w : World) (B : Nat) : IsInts w B (.slice none 0 0) [] := ⟨⟨none, 0, rfl, Nat.le_refl _, by simp, .inl rfl⟩, fun _ h => by cases h⟩
def bestStep (better : List Int → List Int → Bool) (all : Nat) (q : Nat → Bool) (st : Bool × List Int) (n : Nat) : Bool × List Int :=
  if subsetN n all && q n then (if !st.1 || better (natsI (members n)) st.2 then (true, natsI (members n)) else st) else st
def bestTo (better : List Int → List Int → Bool) (all : Nat) (q : Nat → Bool) (k : Nat) : Bool × List Int := (List.range k).foldl (bestStep better all q) (false, [])
def bestF (better : List Int → List Int → Bool) (all : Nat) (q : Nat → Bool) : List Int := (bestTo better all q 64).2
theorem bestTo_succ (better : List Int → List Int → Bool) (all : Nat) (q : Nat → Bool) (k : Nat) : bestTo better all q (k + 1) = bestStep better all q (bestTo better all q k) k := by simp [bestTo, List.range_succ]

set_option maxRecDepth 100000 in
set_option maxHeartbeats 2000000 in
theorem best_any (better : List Int → List Int → Bool) (gb : Nat) (hgb : ∀ (args : Array Value) (w : World), (callFunc gb args).run Try.prog w = .ok (.enter gb args) w)
    (hbet : ∀ (a b : List Int) (va vb : Value) (w : World), IsInts w w.heap.size va a → IsInts w w.heap.size vb b → Calls Try.prog gb #[va, vb] w fun e w' => e = .returned (.bool (better a b)) ∧ w = w')
    (all : Nat) (hall : all < 64) (g : Nat) (cap : Array Value) (q : Nat → Bool) (hg : ∀ (args : Array Value) (w : World), (callFunc g args).run Try.prog w = .ok (.enter g args) w) (w : World)
    (hso : ∀ s, s < 64 → ∀ w', Below w.heap.size w w' → Calls Try.prog g (#[.int .i64 s] ++ cap) w' fun e w'' => e = .returned (.bool (q s)) ∧ Below w'.heap.size w' w'') :
    Calls Try.prog 123 #[.agg #[.func (.func gb) #[] #[]], .int .i64 all, .func (.func g) #[] cap] w fun e w' => ∃ v, e = .returned v ∧ IsInts w' w'.heap.size v (bestF better all q) ∧ Below w.heap.size w w' := by
  have HSO := Lib.hid hso; have HBET := Lib.hid hbet
  clear hso hbet
  have hb0 : Below w.heap.size w (w.alloc (.cells #[.func (.func gb) #[] #[]] 170)) := (Below.refl _ w).alloc (Nat.le_refl _) _
  have x0 : Boxed (w.alloc (.cells #[.func (.func gb) #[] #[]] 170)) w.heap.size 170 (.func (.func gb) #[] #[]) := Boxed.new w _ _
  have HX := Lib.hid (And.intro hb0 x0)
  clear hb0 x0
  go_enter Try.func123, Try.ntmps123
  go_wp2_with fail
  go_loopw [7, 8, 12] (fun v f i wr => ∃ k : Nat, k ≤ 64 ∧ i = .int .i64 k ∧ f = .bool (bestTo better all q k).1 ∧ Hid (IsInts wr wr.heap.size v (bestTo better all q k).2 ∧ Below (w.heap.size + 1) (w.alloc (.cells #[.func (.func gb) #[] #[]] 170)) wr)) (fun _ _ i _ => 64 - (intOf i).toNat)
  case atStart => exact ⟨0, by omega, rfl, rfl, ints_nil _ _, Below.refl _ _⟩
  case round =>
    obtain ⟨k, hk, rfl, rfl, hrel⟩ := hrel
    by_cases hlt : k < 64
    · have hki : (k : Int) < 64 := by omega
      have hba := bits_andNot hlt hall
      have hsub : subsetN k all = (k &&& (63 - (all &&& 63)) == 0) := rfl
      have hstep := bestTo_succ better all q k
      unfold bestStep at hstep
      have hBr := HX.out.1.trans (hrel.out.2.mono (Nat.le_succ _))
      have hcb : wr.cell? ⟨w.heap.size, 0, none⟩ = some (.func (.func gb) #[] #[]) := (hrel.out.2.cell (p := ⟨w.heap.size, 0, none⟩) (Nat.lt_succ_self _)).trans HX.out.2.cell
      have hsz : w.heap.size + 1 ≤ wr.heap.size := Nat.le_trans (by simp) hrel.out.2.size
      have HBR := Lib.hid (And.intro hBr hsz)
      clear hBr hsz
      cases hz : (k &&& (63 - (all &&& 63)) == 0)
      · have hz0 : (k &&& (63 - (all &&& 63))) ≠ 0 := by intro e; rw [e] at hz; cases hz
        have hz' : ¬ ((k &&& (63 - (all &&& 63)) : Nat) : Int) = 0 := fun e => hz0 (Int.natCast_eq_zero.1 e)
        rw [hsub, hz] at hstep
        have HS := Lib.hid hstep
        clear hz hz0 hstep hsub
        go_wp2_with fail
        try (refine ⟨fun _ h => (by cases h), ?_⟩; go_wp2_with fail)
        go_roundw
        case rel =>
          refine ⟨k + 1, by omega, by go_num, ?_, ?_⟩
          · rw [HS.out]; rfl
          · rw [HS.out]; exact hrel.out
        case measure => simp [intOf]; omega
      · have hz' : (k &&& (63 - (all &&& 63))) = 0 := by simpa using hz
        rw [hz'] at hba
        have HSK := Lib.hid (HSO.out k hlt wr HBR.out.1)
        cases hq : q k
        · rw [hsub, hz, hq] at hstep
          rw [hq] at HSK
          have HS := Lib.hid hstep
          clear hz hz' hstep hsub
          go_wp2_with fail
          refine HSK.out.mono ?_
          rintro e w1 ⟨rfl, hb1⟩
          have H1 := Lib.hid hb1; clear hb1
          go_wp2_with fail
          go_roundw
          case rel =>
            refine ⟨k + 1, by omega, by go_num, ?_, ?_⟩
            · rw [HS.out]; rfl
            · rw [HS.out]
              exact ⟨(hrel.out.1.below H1.out (Nat.le_refl _)).mono H1.out.size, hrel.out.2.trans (H1.out.mono HBR.out.2)⟩
          case measure => simp [intOf]; omega
        · rw [hsub, hz, hq] at hstep
          rw [hq] at HSK
          have HS := Lib.hid hstep
          clear hz hz' hstep hsub
          cases hfound : (bestTo better all q k).1
          · have HF := Lib.hid hfound
            clear hfound
            go_wp2_with fail
            refine HSK.out.mono ?_
            rintro e w1 ⟨rfl, hb1⟩
            have H1 := Lib.hid hb1; clear hb1
            go_wp2_with (go_at_call 94; refine (list_any k hlt _).mono ?_; rintro e w3 ⟨v, rfl, hv, hb3⟩; have H3 := Lib.hid (And.intro hv hb3); clear hv hb3)
            go_roundw
            case rel =>
              have hb13 : Below wr.heap.size wr w3 := H1.out.trans (H3.out.2.mono H1.out.size)
              refine ⟨k + 1, by omega, by go_num, ?_, ?_⟩
              · rw [HS.out, HF.out]; rfl
              · rw [HS.out, HF.out]
                exact ⟨H3.out.1, hrel.out.2.trans (hb13.mono HBR.out.2)⟩
            case measure => simp [intOf]; omega
          · have HF := Lib.hid hfound
            clear hfound
            go_wp2_with fail
            refine HSK.out.mono ?_
            rintro e w1 ⟨rfl, hb1⟩
            have H1 := Lib.hid hb1
            have hcb1 := (hb1.cell (p := ⟨w.heap.size, 0, none⟩) (Nat.lt_of_lt_of_le (Nat.lt_succ_self _) HBR.out.2)).trans hcb
            clear hb1
            go_wp2_with (go_at_call 94; refine (list_any k hlt _).mono ?_; rintro e w3 ⟨v, rfl, hv, hb3⟩; have hcb3 := (hb3.cell (p := ⟨w.heap.size, 0, none⟩) (Nat.lt_of_lt_of_le (Nat.lt_of_lt_of_le (Nat.lt_succ_self _) HBR.out.2) H1.out.size)).trans hcb1; have H3 := Lib.hid (And.intro hv (And.intro hb3 hcb3)); clear hv hb3)
            have hb13 : Below wr.heap.size wr w3 := H1.out.trans (H3.out.2.1.mono H1.out.size)
            have HCB := HBET.out (natsI (members k)) (bestTo better all q k).2 v u7 w3 H3.out.1 ((hrel.out.1.below hb13 (Nat.le_refl _)).mono hb13.size)
            clear hb13
            cases hbt : better (natsI (members k)) (bestTo better all q k).2
            · rw [hbt] at HCB
              have HBT := Lib.hid hbt
              clear hbt
              refine HCB.mono ?_
              rintro e w4 ⟨rfl, rfl⟩
              go_wp2_with fail
              go_roundw
              case rel =>
                have hb13 : Below wr.heap.size wr w3 := H1.out.trans (H3.out.2.1.mono H1.out.size)
                refine ⟨k + 1, by omega, by go_num, ?_, ?_⟩
                · rw [HS.out, HF.out, HBT.out]; exact congrArg Value.bool HF.out.symm
                · rw [HS.out, HF.out, HBT.out]
                  exact ⟨(hrel.out.1.below hb13 (Nat.le_refl _)).mono hb13.size, hrel.out.2.trans (hb13.mono HBR.out.2)⟩
              case measure => simp [intOf]; omega
            · rw [hbt] at HCB
              have HBT := Lib.hid hbt
              clear hbt
              refine HCB.mono ?_
              rintro e w4 ⟨rfl, rfl⟩
              go_wp2_with fail
              go_roundw
              case rel =>
                have hb13 : Below wr.heap.size wr w3 := H1.out.trans (H3.out.2.1.mono H1.out.size)
                refine ⟨k + 1, by omega, by go_num, ?_, ?_⟩
                · rw [HS.out, HF.out, HBT.out]; rfl
                · rw [HS.out, HF.out, HBT.out]
                  exact ⟨H3.out.1, hrel.out.2.trans (hb13.mono HBR.out.2)⟩
              case measure => simp [intOf]; omega
    · obtain rfl : k = 64 := by omega
      go_wp2_with fail
      go_ret
      exact ⟨_, rfl, hrel.out.1, HX.out.1.trans (hrel.out.2.mono (Nat.le_succ _))⟩
end Go.Proofs.Ytnhifinfjfpoiaa

namespace Go.Proofs.Ytnhifinfjfpoiaa
open Go.RowKit
set_option linter.unusedVariables false
attribute [local go_sem] Oper.semAt_some

def coverAcc (c : Col) (R : Nat) (l : List Nat) : Nat := l.foldl (fun acc h => orN acc (reachN c h R)) 0
def coverB (c : Col) (R all s : Nat) : Bool := subsetN all (coverAcc c R (members s))
theorem coverAcc_snoc (c : Col) (R : Nat) (l : List Nat) (o : Nat) : coverAcc c R (l ++ [o]) = orN (coverAcc c R l) (reachN c o R) := by simp [coverAcc, List.foldl_append]
theorem coverAcc_lt (c : Col) (R : Nat) (l : List Nat) (hl : ∀ h ∈ l, h < 6) : coverAcc c R l < 64 := by
  have key : ∀ (l : List Nat) (a : Nat), (∀ h ∈ l, h < 6) → a < 64 → l.foldl (fun acc h => orN acc (reachN c h R)) a < 64 := by
    intro l
    induction l with
    | nil => intro a _ h; exact h
    | cons o l ih => intro a hl h; exact ih _ (fun x hx => hl x (by simp [hx])) (orN_lt h (reachN_lt c o (hl o (by simp)) R))
  exact key l 0 hl (by decide)

set_option maxRecDepth 100000 in
set_option maxHeartbeats 2000000 in
theorem cover_any (c : Col) (p R all s bd br ba : Nat) (w : World) (hd : Desk w p c) (hR : R ≤ 3) (hs : s < 64) (hall : all < 64) (x1 : Boxed w bd 118 (.pointer (some ⟨p, 0, none⟩))) (x2 : Boxed w br 3 (.int .i64 R)) (x3 : Boxed w ba 123 (.int .i64 all)) :
    Calls Try.prog 124 #[.int .i64 s, .pointer (some ⟨bd, 0, none⟩), .pointer (some ⟨br, 0, none⟩), .pointer (some ⟨ba, 0, none⟩)] w fun e w' => e = .returned (.bool (coverB c R all s)) ∧ Below w.heap.size w w' := by
  have l1 := (Array.getElem?_eq_some_iff.1 x1).1
  have l2 := (Array.getElem?_eq_some_iff.1 x2).1
  have l3 := (Array.getElem?_eq_some_iff.1 x3).1
  have HD := Lib.hid hd; have HX := Lib.hid (And.intro x1 (And.intro x2 x3))
  clear hd x1 x2 x3
  refine (callsIn_wide (n := 9)).1 ?_
  refine callsIn_of_wp_marks Try.func124 rfl trivial ?_ rfl
  simp only [Try.ntmps124, List.size_toArray, List.length_cons, List.length_nil, Nat.reduceAdd, Nat.reduceSub, Array.replicate_succ, Array.replicate_zero, List.push_toArray, List.append_toArray, List.nil_append, List.cons_append]
  gi_wp2_with (refine ⟨trivial, ?_⟩; gi_at_call 103; refine (houses_in Fence.wide _ _ trivial rfl _).mono ?_; rintro e w' ⟨rfl, rfl⟩)
  have y2 : Boxed ((w.alloc (.cells #[.int .i64 0] 123)).alloc (.cells #[.int .i64 s] 123)) w.heap.size 123 (.int .i64 0) := (Boxed.new w _ _).alloc _
  have y3 : Boxed ((w.alloc (.cells #[.int .i64 0] 123)).alloc (.cells #[.int .i64 s] 123)) (w.heap.size + 1) 123 (.int .i64 s) := by
    have := Boxed.new (w.alloc (.cells #[.int .i64 0] 123)) 123 (.int .i64 s)
    rw [World.size_alloc] at this
    exact this
  have hb4 : Below w.heap.size w ((w.alloc (.cells #[.int .i64 0] 123)).alloc (.cells #[.int .i64 s] 123)) := ((Below.refl _ w).alloc (Nat.le_refl _) _).alloc (by simp) _
  have hs4 : ((w.alloc (.cells #[.int .i64 0] 123)).alloc (.cells #[.int .i64 s] 123)).heap.size = w.heap.size + 2 := by simp
  obtain ⟨W4, hW4⟩ : ∃ W4, ((w.alloc (.cells #[.int .i64 0] 123)).alloc (.cells #[.int .i64 s] 123)) = W4 := ⟨_, rfl⟩
  rw [hW4] at y2 y3 hb4 hs4 ⊢
  clear hW4
  have HY := Lib.hid (And.intro y2 (And.intro y3 hb4))
  have hle4 : w.heap.size + 2 ≤ W4.heap.size := by omega
  clear y2 y3 hb4 hs4
  refine wpIn_rangeFunc_ownG rfl (by decide) (gf := 141) (lb := #[.pointer (some ⟨w.heap.size + 1, 0, none⟩)]) rfl trivial Try.call141
    (houses_stops Fence.wide 8 s hs trivial trivial rfl (by decide) (w.heap.size + 1) (fun A B => B.cell? ⟨w.heap.size + 1, 0, none⟩ = A.cell? ⟨w.heap.size + 1, 0, none⟩) (fun A B h => h) W4 (by omega) HY.out.2.1.cell)
    (fun h k => k.trans h) (fun W1 l o o' hl ho hc _ => ?kb) (Below.refl _ _) (fun _ => rfl)
    (fun pre W1 => Boxed W1 w.heap.size 123 (.int .i64 (coverAcc c R (vals pre) : Nat)) ∧ Kept w.heap.size w.heap.size w.heap.size W4 W1)
    (fun _ _ _ => False) ?hI (fun _ _ _ _ _ hs _ _ => hs) ⟨HY.out.1, Kept.refl _ _ _ _⟩
    (fun x => { tmps := #[.int .i64 s, .pointer (some ⟨bd, 0, none⟩), .pointer (some ⟨br, 0, none⟩), .pointer (some ⟨ba, 0, none⟩), undef, .bool false, .pointer (some ⟨w.heap.size, 0, none⟩), .int .i64 x.1, .int .i64 s, .func (.func 141) #[] #[.pointer (some ⟨w.heap.size + 1, 0, none⟩)], .int .i64 x.1, undef, undef, undef, undef, undef, undef, undef, undef, undef, undef], defers := [] }) ?assign ?body ?done ?stop
  case kb =>
    show (W1.putObj l o').cell? _ = _
    have hne : w.heap.size + 1 ≠ l := by omega
    exact World.cell?_of_block (w := W1) (World.putObj_heap_other hne)
  case hI =>
    refine ownFrom_of_below (fun s W1 h => h.2.size) ?_
    rintro s W1 W2 hb ⟨g1, g2⟩
    exact ⟨(hb.block _ (by omega)).trans g1, g2.onto hb (Nat.le_refl _)⟩
  case assign =>
    intro l x W1 K hK
    gi_wp2
    exact hK
  case body =>
    rintro l pre x W1 ⟨g1, g2⟩ hlt
    have hx6 := x.2.1
    have hBW : Below w.heap.size w W1 := HY.out.2.2.trans (g2.below (by omega) (Nat.le_refl _) (Nat.le_refl _) (Nat.le_refl _))
    have hsz := g2.size
    have e1 := g1.cell
    have e3 := Boxed.cell (show Boxed W1 bd 118 (.pointer (some ⟨p, 0, none⟩)) from (hBW.block _ l1).trans HX.out.1)
    have e4 := Boxed.cell (show Boxed W1 br 3 (.int .i64 R) from (hBW.block _ l2).trans HX.out.2.1)
    have hcl := coverAcc_lt c R (vals pre) (vals_lt pre)
    have hrl := reachN_lt c x.1 hx6 R
    have hor := bits_orN hcl hrl
    have hmix : Try.prog.follows .mixedOrders = true := by kernel_rfl
    have HDW := Lib.hid (HD.out.below (hBW.drew))
    have HG := Lib.hid (And.intro g1 (And.intro g2 hBW))
    have hkey : ∀ w2 : World, Below W1.heap.size W1 w2 → w2.cell? ⟨w.heap.size, 0, none⟩ = some (.int .i64 (coverAcc c R (vals pre) : Nat)) ∧ w2.frozen? ⟨w.heap.size, 0, none⟩ = false := fun w2 h2 => by
      have := (h2.block w.heap.size (by omega)).trans g1
      exact ⟨Boxed.cell this, Boxed.frozen this⟩
    have HK := Lib.hid hkey
    clear g1 g2 hBW hkey
    refine wpIn_block ?_
    gi_region_with_o (refine ⟨trivial, ?_⟩; gi_at_call 118; refine (CallsIn.inRound l (callsIn_wide.2 (reaches_any c p x.1 R _ HDW.out hx6 hR))).mono ?_; rintro e w2 ⟨rfl, hb2⟩; have H2 := Lib.hid hb2; obtain ⟨k1, k2⟩ := HK.out w2 (((Below.refl _ W1).drew).trans hb2); clear hb2)
    all_goals
      obtain ⟨g1, g2, hBW⟩ := HG.out
      have hb2 : Below W1.heap.size W1 w2 := ((Below.refl _ W1).drew).trans H2.out
      have k2 : Kept w.heap.size w.heap.size w.heap.size W1 (w2.setCell ⟨w.heap.size, 0, none⟩ (.int .i64 (orN (coverAcc c R (vals pre)) (reachN c x.1 R)))) := (Kept.of hb2).set ⟨w.heap.size, 0, none⟩ _ (.inl rfl)
      refine ⟨k2.keeps (by omega) (by omega) (by omega), k2.cell (p := ⟨w.heap.size + 1, 0, none⟩) (by simp; omega) (by simp) (by simp) (by simp), ?_, g2.trans k2⟩
      rw [vals_snoc, coverAcc_snoc]
      exact heap_setCell_same w2 _ _ _ _ _ ((hb2.block _ (by omega)).trans g1)
  case done =>
    rintro D ys W1 hD hys ⟨g1, g2⟩ hK
    have hBW : Below w.heap.size w W1 := HY.out.2.2.trans (g2.below (by omega) (Nat.le_refl _) (Nat.le_refl _) (Nat.le_refl _))
    have hsz := g2.size
    have e1 := g1.cell
    have e5 := Boxed.cell (show Boxed W1 ba 123 (.int .i64 all) from (hBW.block _ l3).trans HX.out.2.2)
    rw [hys] at e1
    have hcl := coverAcc_lt c R (members s) (members_lt s)
    have hba := bits_andNot hall hcl
    have hcov : coverB c R all s = (all &&& (63 - (coverAcc c R (members s) &&& 63)) == 0) := rfl
    have HCV := Lib.hid hcov
    have HZ := Lib.hid (And.intro hBW hK)
    clear g1 g2 hBW hK hys hcov
    gi_wp2_with fail
    refine ret_marks (B := w.heap.size) (m := D + 1) ((MarksLt.nil w.heap.size D _).cons (Nat.le_refl _) (by omega) (Nat.lt_succ_self _) HZ.out.2) (fun W' hW' => ?_)
    refine ⟨_, results_tmp rfl _ _ _, ?_, HZ.out.1.trans hW'⟩
    refine ret_bool ?_
    rw [HCV.out]
    rw [Bool.eq_iff_iff]; simp only [beq_iff_eq]; exact Int.natCast_eq_zero
  case stop =>
    rintro D e pre W1 _ _ h _
    exact h.elim
end Go.Proofs.Ytnhifinfjfpoiaa
