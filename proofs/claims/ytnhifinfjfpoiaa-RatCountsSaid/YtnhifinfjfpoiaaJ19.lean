/- How many have come from each house: the program's span is the reference's. Contract of the reference's Starts. Contracts of both Starts, with every error. An append to a list of one's own that is not nil, of some elements or of none: as a step of a region that draws its order. The memory of the reference's Fits: the groups grown by one, and all lists of a truth in one. What the reference's Fits asks, in plain Lean, is what a truth is. Contract of the reference's Fits. -/
import Derived.Test.YtnhifinfjfpoiaaJ08
import Derived.Test.YtnhifinfjfpoiaaJ15
import Derived.Test.YtnhifinfjfpoiaaJ01
import Derived.Test.YtnhifinfjfpoiaaJ11
import Derived.Test.YtnhifinfjfpoiaaJ18
import Derived.Test.YtnhifinfjfpoiaaJ02
import Derived.Deep.AppendLies
import Derived.Deep.Upon
namespace Go.Proofs.Ytnhifinfjfpoiaa
open Go.RowKit

theorem LikeG.bit {gl : List (Int × List Bool)} {nl : List (Int × Int)} (h : LikeG gl nl) {i o : Nat} (hi : i < gl.length) (h6 : (nthG gl i).2.length ≤ 6) (ho : o < (nthG gl i).2.length) : nthB (nthG gl i).2 o = (frm nl i).testBit o := by
  have e := (h.2 i hi).2 (maskOf fun q => q != o)
  have hm : ∀ q, q < 6 → (maskOf fun q => q != o).testBit q = (q != o) := fun q hq => maskOf_bit _ q hq
  rw [Bool.eq_iff_iff] at e ⊢
  rw [subB_iff] at e
  unfold withinB SubS at e
  rw [allB_iff] at e
  constructor
  · intro hb
    cases hq : (frm nl i).testBit o
    · have := e.2 (fun k hk hkb => by
        rw [hm k hk]
        have : k ≠ o := fun q => by rw [q, hq] at hkb; cases hkb
        simpa using this) o ho
      rw [hb, hm o (by omega)] at this
      simp at this
    · rfl
  · intro hb
    cases hq : nthB (nthG gl i).2 o
    · have := e.1 (fun k hk => by
        by_cases q : k = o
        · rw [q, hq]; rfl
        · rw [hm k (by omega)]; simp [q]) o (by omega) hb
      rw [hm o (by omega)] at this
      simp at this
    · rfl
/-- The rats that can have come from a house. -/
def aloneS (c : Col) (h k : Nat) : Int := sumN (fun i => if nthB (nthG (groupsC c) i).2 h = true then (nthG (groupsC c) i).1 else 0) k
theorem ownTo_is (nl : List (Int × Int)) (h : Nat) : ∀ k, ownTo nl h k = sumN (fun i => if (frm nl i).testBit h = true then rats nl i else 0) k
  | 0 => rfl
  | k + 1 => by
    have e : ownTo nl h (k + 1) = if (frm nl k).testBit h = true then ownTo nl h k + (nthP nl k).1 else ownTo nl h k := rfl
    rw [e, ownTo_is nl h k, sumN_succ]
    unfold rats
    split <;> omega
theorem from_len {c : Col} {i : Nat} (hi : i < (groupsC c).length) : (nthG (groupsC c) i).2.length = c.rooms.length := by
  obtain ⟨n, j, _, _, e⟩ := groupsC_mem (nthG_mem hi)
  rw [e]; exact fromL_len c n j
theorem alone_own {c : Col} (ok : OkCol c) {h : Nat} (hh : h < c.rooms.length) : aloneS c h (groupsC c).length = ownTo (needsC c) h (needsC c).length := by
  have o2 := ok.houses.2
  have hl := like_all ok
  rw [ownTo_is]
  unfold aloneS
  rw [hl.1]
  refine sumN_congr fun i hi => ?_
  have hi' : i < (groupsC c).length := by rw [hl.1]; exact hi
  rw [hl.bit hi' (by rw [from_len hi']; omega) (by rw [from_len hi']; omega), (hl.2 i hi').1]
theorem roomOk_set {c : Col} (ok : OkCol c) (h : Nat) : RoomOk (c.rooms.set h 0) (groupsC c) := by
  have rok := roomOk_of ok
  refine ⟨by simpa using rok.rl6, fun o ho => ?_, rok.gl40, rok.rats, rok.from6⟩
  have ho' : o < c.rooms.length := by simpa using ho
  by_cases e : h = o
  · subst e; unfold nth; simp [ho']
  · have : nth (c.rooms.set h 0) o = nth c.rooms o := by
      unfold nth; rw [List.getD_eq_getElem?_getD, List.getD_eq_getElem?_getD, List.getElem?_set_ne e]
    rw [this]; exact rok.rooms o ho'
theorem rooms_set6 {c : Col} (ok : OkCol c) (h : Nat) : ∀ o, o < 6 → 0 ≤ nth (c.rooms.set h 0) o ∧ nth (c.rooms.set h 0) o ≤ 60 := by
  intro o ho
  by_cases q : o < (c.rooms.set h 0).length
  · exact (roomOk_set ok h).rooms o q
  · rw [nth_over q]; omega
/-- The span that the reference tells for a house. -/
def refStart (c : Col) (h : Nat) : Int × Int := (caughtR c - minG (c.rooms.set h 0) (groupsC c) (pow2 c.rooms.length), if nthB (staysL c (allL c.rooms.length c.rooms.length)) h = true ∨ nth c.rooms h < aloneS c h (groupsC c).length then nth c.rooms h else aloneS c h (groupsC c).length)
theorem start_is {c : Col} (hk : fitErr c = 0) {h : Nat} (hh : h < c.rooms.length) : startOf c h = refStart c h := by
  have ok := okCol_of (fit_parts hk).1
  have o2 := ok.houses.2
  have hmin : minG (c.rooms.set h 0) (groupsC c) (pow2 c.rooms.length) = cutC (needsC c) (nth (c.rooms.set h 0)) := by
    have := min_cut (like_all ok) (roomOk_set ok h) (fun o ho q hb => by simpa using needs_in ok o ho q hb)
    rw [List.length_set] at this
    exact this
  have hall : (shareF (needsC c) (c.rooms.set h 0)).all = cutC (needsC c) (nth (c.rooms.set h 0)) := (share_fed (needsC c) (c.rooms.set h 0) (fun o ho => by have := rooms_set6 ok h o ho; omega) (needs_nonneg ok)).cut
  have hb := (share_fed (needsC c) (c.rooms.set h 0) (fun o ho => by have := rooms_set6 ok h o ho; omega) (needs_nonneg ok)).all_bound (fun o ho => by have := rooms_set6 ok h o ho; omega)
  have hf := fit_bound ok
  have hm := (stays_all ok) h
  have hb2 : (unionN (leftC c)).testBit h = nthB (staysL c (allL c.rooms.length c.rooms.length)) h := by
    rw [Bool.eq_iff_iff, hm]
    constructor
    · exact fun q => q.2
    · exact fun q => ⟨by rw [staysL_len]; exact hh, q⟩
  unfold startOf refStart startOwn
  rw [hmin, ← hall, ← tot_all, ← fit_all hk, hb2, alone_own ok hh]
  refine Prod.ext ?_ ?_
  · show wrap64 _ = _
    unfold wrap64; omega
  · show min _ _ = _
    cases hq : nthB (staysL c (allL c.rooms.length c.rooms.length)) h
    · by_cases hlt : nth c.rooms h < ownTo (needsC c) h (needsC c).length
      · rw [if_neg (by simp), if_pos (.inr hlt)]; omega
      · rw [if_neg (by simp), if_neg (by simp; omega)]; omega
    · rw [if_pos rfl, if_pos (.inl rfl)]; omega
end Go.Proofs.Ytnhifinfjfpoiaa

namespace Go.Proofs.Ytnhifinfjfpoiaa
open Go.RowKit
set_option linter.unusedVariables false
set_option linter.unusedSimpArgs false

/-- A list of numbers of one's own: one of them set to nought. -/
theorem owned_zero {w : World} {b g n cap : Nat} {l : List Int} (h : w.ownsRow b 3 1 (.slice (some ⟨g, 0, none⟩) n cap) n (intsV l)) (hl : l.length = n) {k : Nat} (hk : k < n) :
    w.cell? ⟨g, k, none⟩ = some (.int .i64 (nth l k)) ∧ w.frozen? ⟨g, k, none⟩ = false ∧ (w.setCell ⟨g, k, none⟩ (.int .i64 0)).ownsRow b 3 1 (.slice (some ⟨g, 0, none⟩) n cap) n (intsV (l.set k 0)) := by
  obtain ⟨h0, h | ⟨g', cap', cur, e, hb, hc, hn, hm, hs, ht⟩⟩ := h
  · obtain ⟨e, _⟩ := h; cases e
  · cases e
    rw [Nat.mul_one] at ht
    have hcs : n ≤ cur.size := by
      have := congrArg List.length ht
      rw [List.length_take, intsV_len, Array.length_toList] at this
      omega
    have hg : cur[k]? = some (.int .i64 (nth l k)) := by
      have h1 : (cur.toList.take n)[k]? = (intsV l)[k]? := by rw [ht]
      rw [List.getElem?_take, if_pos hk, Array.getElem?_toList] at h1
      rw [h1]; simp [intsV, nth, show k < l.length from by omega]
    refine ⟨(cell_of_row w g k _ _ _ hc).trans hg, frozen_of_row w g k _ _ hc, by rw [intsV_len, List.length_set]; omega, .inr ⟨g, cap, cur.setIfInBounds k (.int .i64 0), rfl, hb, heap_setCell_same w g k _ _ _ hc, hn, hm, by simpa using hs, ?_⟩⟩
    rw [Nat.mul_one]
    have e1 : (cur.setIfInBounds k (.int .i64 0)).toList = cur.toList.set k (.int .i64 0) := by simp
    rw [e1, List.take_set, ht]
    simp [intsV]
theorem starts_i64 {c : Col} (hk : fitErr c = 0) : ∀ p ∈ startsC c, I64 p.1 ∧ I64 p.2 := by
  intro q hq
  obtain ⟨h, hh, rfl⟩ := List.mem_map.1 hq
  have ok := okCol_of (fit_parts hk).1
  have hh' := ok.room h (List.mem_range.1 hh)
  refine ⟨wrap64_i64 _, ?_⟩
  have h0 : 0 ≤ startOwn c h := by
    unfold startOwn; split
    · exact hh'.1
    · exact (ownTo_bound (needs_rats ok) h _ (Nat.le_refl _)).1
  show I64 (min (startOwn c h) (nth c.rooms h))
  have h1 : min (startOwn c h) (nth c.rooms h) ≤ nth c.rooms h := Int.min_le_right _ _
  have h2 : 0 ≤ min (startOwn c h) (nth c.rooms h) := Int.le_min.2 ⟨h0, hh'.1⟩
  constructor <;> omega
theorem aloneS_succ (c : Col) (h k : Nat) : aloneS c h (k + 1) = aloneS c h k + (if nthB (nthG (groupsC c) k).2 h = true then (nthG (groupsC c) k).1 else 0) := rfl
theorem aloneS_bound {c : Col} (ok : OkCol c) (h : Nat) {k : Nat} (hk : k ≤ (groupsC c).length) : 0 ≤ aloneS c h k ∧ aloneS c h k ≤ 1000 * k := by
  have rok := roomOk_of ok
  constructor
  · exact sumN_nonneg fun i hi => by have := rok.rats i (by omega); split <;> omega
  · exact sumN_bound fun i hi => by have := rok.rats i (by omega); split <;> omega

set_option maxRecDepth 100000 in
set_option maxHeartbeats 4000000 in
theorem rStarts_ok (c : Col) (r t u n : Value) (w : World) (hc : ColAt w w.heap.size r t u n c) (hk : fitErr c = 0) :
    Calls Try.prog 70 #[.agg #[r, t, u, n]] w fun e w' => ∃ v, e = .returned (.tuple #[v, .int .i64 0]) ∧ IsPairs w' w'.heap.size v (startsC c) ∧ Below w.heap.size w w' := by
  have ok := okCol_of (fit_parts hk).1
  have o2 := ok.houses.2
  have hBW : Below w.heap.size w (w.alloc (.cells #[r, t, u, n] 32)) := (Below.refl w.heap.size w).alloc (Nat.le_refl _) _
  have hcA := hc.on hBW
  have hx : (w.alloc (.cells #[r, t, u, n] 32)).heap[w.heap.size]? = some (.cells #[r, t, u, n] 32 (0, 0)) := blk _ _ _ _ rfl
  have hcheck := rfitting_any c r t u n _ hcA
  rw [rfit_is, hk] at hcheck
  have HI0 := Lib.hid (info_parts infoInt)
  have HI1 := Lib.hid (info_parts infoSpan)
  obtain ⟨hr, htr, hu, hn⟩ := hc
  have HRI := Lib.hid hr.2
  obtain ⟨ar, cr, rfl, _, _, hr3⟩ := hr.open
  obtain ⟨at_, ct, rfl, _⟩ := htr.open
  obtain ⟨au, cu, rfl, _⟩ := hu.open
  obtain ⟨an, cn, rfl, _⟩ := hn.open
  have HB := Lib.hid hBW; have HX := Lib.hid hx; have HC := Lib.hid hcA; have HCK := Lib.hid hcheck; have HOK := Lib.hid ok; have HK := Lib.hid hk; have HR3 := Lib.hid hr3
  clear hr htr hu hn hBW hk hcA hx ok hcheck hr3
  go_enter Try.func70, Try.ntmps70
  go_wp2_with fail
  refine HCK.out.mono ?_
  rintro e w1 ⟨rfl, hb1⟩
  have HC1 := Lib.hid (HC.out.on hb1)
  have HX1 := Lib.hid (blk_on HX.out hb1)
  have HB1 := Lib.hid (HB.out.trans (hb1.mono HB.out.size))
  obtain ⟨q0, q1, q2, q3⟩ := four_of (blk_on HX.out hb1)
  have HGR := Lib.hid (groups_any c _ _ _ _ w1 HC1.out HOK.out)
  clear hb1
  go_upto_region 5 with (go_at_call 114; refine HGR.out.mono ?_; rintro e w2 ⟨v2, rfl, hg2, hb2⟩; have hg := groups_read HOK.out hg2; obtain ⟨a2, c2, rfl, _⟩ := hg.open; have HG2 := Lib.hid hg; have H2 := Lib.hid hb2; clear hg2 hb2 hg)
  have hx2 := blk_on HX1.out H2.out
  have hc2 := HC1.out.on H2.out
  have HB2 := Lib.hid (HB1.out.trans (H2.out.mono HB1.out.size))
  have HPQ : Hid (∀ W, Hid (Below w2.heap.size w2 W) → BoxB w2 w.heap.size (.slice ar c.rooms.length cr) (.slice at_ c.traps.length ct) (.slice au c.runs.length cu) (.slice an c.nights.length cn) W) := fun W h => BoxB.of hx2 h.out
  have hP : w2.drew.cell? ⟨w.heap.size, 0, none⟩ = some (.slice ar c.rooms.length cr) ∧ w2.drew.cell? ⟨w.heap.size, 1, none⟩ = some (.slice at_ c.traps.length ct) ∧ w2.drew.cell? ⟨w.heap.size, 2, none⟩ = some (.slice au c.runs.length cu) ∧ w2.drew.cell? ⟨w.heap.size, 3, none⟩ = some (.slice an c.nights.length cn) ∧ Hid (Below w2.heap.size w2 w2.drew) := BoxB.of hx2 (Below.refl _ _).drew
  have HEV : Hid (∀ W, Hid (Below w2.heap.size w2 W) → Calls Try.prog 129 #[.agg #[.slice ar c.rooms.length cr, .slice at_ c.traps.length ct, .slice au c.runs.length cu, .slice an c.nights.length cn]] W fun e w' => ∃ b, e = .returned (.slice (some ⟨b, 0, none⟩) c.rooms.length c.rooms.length) ∧ Hid (IsBools w' w'.heap.size (.slice (some ⟨b, 0, none⟩) c.rooms.length c.rooms.length) (allL c.rooms.length c.rooms.length)) ∧ Hid (Below w2.heap.size w2 w')) := fun W h => (everywhere_any c _ _ _ _ W (hc2.on h.out) o2).mono fun _ w' ⟨b, h1, h2, h3, h4⟩ => by
    refine ⟨b, h1, ?_, h.out.trans (h4.mono h.out.size)⟩
    rw [allL_all]
    have h5 := h2.is (by simp; omega)
    rw [List.length_replicate] at h5
    exact h5
  have HST := chain_stays hc2 HOK.out (allL_len c.rooms.length c.rooms.length)
  have HX2 := Lib.hid hx2; have HC2 := Lib.hid hc2
  clear q0 q1 q2 q3 hx2 hc2
  go_region_held3 (fun w' => w'.cell? ⟨w.heap.size, 0, none⟩ = some (.slice ar c.rooms.length cr) ∧ w'.cell? ⟨w.heap.size, 1, none⟩ = some (.slice at_ c.traps.length ct) ∧ w'.cell? ⟨w.heap.size, 2, none⟩ = some (.slice au c.runs.length cu) ∧ w'.cell? ⟨w.heap.size, 3, none⟩ = some (.slice an c.nights.length cn) ∧ Hid (Below w2.heap.size w2 w')) (first | with_reducible assumption | exact HPQ.out _ (by assumption) | fail) (first | (go_at_call 129; (with_reducible refine (HEV.out _ (by exact (by assumption : _ ∧ _ ∧ _ ∧ _ ∧ Hid _).2.2.2.2)).mono ?_); rintro e w4 ⟨b4, rfl, hg4, hb4⟩) | (go_at_call 101; (with_reducible refine (HST.out _ _ _ (by exact (by assumption : _ ∧ _ ∧ _ ∧ _ ∧ Hid _).2.2.2.2) hg4).mono ?_); rintro e w5 ⟨b5, rfl, hg5, hb5, hy5⟩))
  have HX5 := Lib.hid (blk_on HX2.out hb5.out)
  have HC5 := Lib.hid (HC2.out.on hb5.out)
  have HB5 := Lib.hid (HB2.out.trans (hb5.out.mono HB2.out.size))
  have HG5 := Lib.hid (HG2.out.on hb5.out)
  clear hP HPQ HEV HST hb4 hy5 hg4 hb5
  go_wp2_with fail
  go_loopw [7, 8] (fun v i wr => ∃ k : Nat, k ≤ c.rooms.length ∧ i = .int .i64 k ∧ Hid (wr.ownsRow w5.heap.size 49 2 v k (pairsV (startsTo c k)) ∧ Below w5.heap.size w5 wr)) (fun _ i _ => c.rooms.length - (intOf i).toNat)
  case atStart => exact ⟨0, Nat.zero_le _, rfl, World.ownsRow_nil _ _ _ _, Below.refl _ _⟩
  case round =>
    obtain ⟨k, hk, rfl, HR⟩ := hrel
    obtain ⟨av, cv, rfl⟩ := owns_slice HR.out.1
    obtain ⟨q0, q1, q2, q3⟩ := four_of (blk_on HX5.out HR.out.2)
    by_cases hlt : k < c.rooms.length
    · have hki : (k : Int) < c.rooms.length := by omega
      obtain ⟨i0, hi, hz0, hz1, hz2⟩ := HI0.out
      have hBr := HB5.out.trans (HR.out.2.mono HB5.out.size)
      obtain ⟨br, offr, rfl, hbr, hcr⟩ := HR3.out k hlt
      have hsrc : ∀ j v, (intsV c.rooms)[j]? = some v → (wr.alloc (.cells #[] 3)).cell? ((⟨br, offr, none⟩ : Addr).add j) = some v := fun j v hv => by
        have hj : j < c.rooms.length := by have := (List.getElem?_eq_some_iff.1 hv).1; simpa [intsV] using this
        obtain ⟨b', off', e', hb', hc⟩ := HR3.out j hj
        cases e'
        have ha : ((⟨br, offr, none⟩ : Addr).add j) = ⟨br, offr + j, none⟩ := by unfold Addr.add; split <;> simp_all
        rw [ha]
        refine (((Below.refl wr.heap.size wr).alloc (Nat.le_refl _) _).cell (p := ⟨br, offr + j, none⟩) (Nat.lt_of_lt_of_le hb' hBr.size)).trans ((hBr.cell (p := ⟨br, offr + j, none⟩) hb').trans (hc.trans ?_))
        rw [← hv]
        simp [intsV, hj, nth]
      have d2 := (hBr.cell (p := ⟨br, offr + k, none⟩) hbr).trans hcr
      have HSRC := Lib.hid hsrc
      have hone : ∀ v ∈ intsV c.rooms, v.oneCell' = true := by intro v hv; obtain ⟨x, _, rfl⟩ := List.mem_map.1 hv; rfl
      have HONE := Lib.hid hone
      have hszr := HR.out.2.size
      have q0A : (wr.alloc (.cells #[] 3)).cell? ⟨w.heap.size, 0, none⟩ = some (.slice (some ⟨br, offr, none⟩) c.rooms.length cr) := (four_of (blk_on (blk_on HX5.out HR.out.2) ((Below.refl wr.heap.size wr).alloc (Nat.le_refl _) _))).1
      have HBR := Lib.hid (And.intro hBr hbr)
      clear hsrc hone hcr hBr d2
      go_wp2_with (first | (at_builtin; refine wpList_append_lies _ rfl _ _ 22 rfl wr.heap.size 3 i0 (.int .i64 0) 1 8 Try.underlying22 hi hz0 hz1 hz2 rfl (by decide) _ _ _ rfl (World.ownsRow_made wr #[] 0 (Nat.le_refl _) (Nat.zero_le _) rfl) ⟨br, offr, none⟩ c.rooms.length cr (intsV c.rooms) rfl (by simp [intsV]) HSRC.out HONE.out (by omega) (by unfold maxLen; omega) (by omega) (by simp) (wr.heap.size + 1) (by simp) ?_; intro g6 cap6 w6 hown6 hgrow6 _ _; rw [Nat.zero_add, List.nil_append] at hown6; obtain ⟨d6, f6, hown7⟩ := owned_zero hown6 rfl hlt; have hg6 := (hown6.lt g6 rfl).1; have H6 := Lib.hid (And.intro hown7 (And.intro hg6 hgrow6)); clear hown7 hg6 hgrow6 hown6))
      obtain ⟨W7, hW7⟩ : ∃ W7, w6.setCell ⟨g6, k, none⟩ (.int .i64 0) = W7 := ⟨_, rfl⟩
      have hb7 : Below wr.heap.size wr W7 := by
        rw [← hW7]
        exact (below_grown ((Below.refl wr.heap.size wr).alloc (Nat.le_refl _) _) H6.out.2.2 (fun r hr => by cases hr; exact Nat.le_refl _) (by simp)).setCell (p := ⟨g6, k, none⟩) H6.out.2.1 _
      have hown7 := H6.out.1
      rw [hW7] at hown7 ⊢
      clear hW7 d6 f6 q0 q1 q2 q3 q0A H6
      have hl7 : ∀ x ∈ c.rooms.set k 0, I64 x := fun x hx => by
        rcases List.mem_or_eq_of_mem_set hx with hx | rfl
        · exact HRI.out x hx
        · constructor <;> decide
      have hrm : IsInts W7 W7.heap.size (.slice (some ⟨g6, 0, none⟩) c.rooms.length cap6) (c.rooms.set k 0) := nums_of_owns (by rw [List.length_set]; exact hown7) hl7 (by simp; omega)
      have H7 := Lib.hid (And.intro hb7 (And.intro hrm (And.intro (owns_below HR.out.1 hb7) ((HG5.out.on HR.out.2).on hb7))))
      obtain ⟨a2', c2', e2, _, g72, g73⟩ := H7.out.2.2.2.open
      cases e2
      have HG7 := Lib.hid g73
      have gl40 := (roomOk_of HOK.out).gl40
      obtain ⟨wo, rfl⟩ : ∃ wo : World, wo = wr := ⟨_, rfl⟩
      clear hb7 hown7 hl7 hrm g73
      go_loopw [10, 11] (fun a i wq => ∃ j : Nat, j ≤ (groupsC c).length ∧ i = .int .i64 j ∧ a = .int .i64 (aloneS c k j) ∧ W7 = wq) (fun _ i _ => (groupsC c).length - (intOf i).toNat)
      case atStart => exact ⟨0, Nat.zero_le _, rfl, rfl, rfl⟩
      case round =>
        obtain ⟨j, hj, rfl, rfl, rfl⟩ := hrel
        have hab := aloneS_bound HOK.out k hj
        by_cases hjl : j < (groupsC c).length
        · have hji : (j : Int) < (groupsC c).length := by omega
          obtain ⟨bg, og, u, rfl, hbg, m1, m2, hu⟩ := HG7.out j hjl
          obtain ⟨af, cf, rfl, _, _, hu3⟩ := hu.open
          have hfl := from_len hjl
          obtain ⟨bf, of, rfl, hbf, m3⟩ := hu3 k (by omega)
          have hr := (roomOk_of HOK.out).rats j hjl
          have hkf : (k : Int) < (nthG (groupsC c) j).2.length := by omega
          have hsu := aloneS_succ c k j
          clear hu hu3
          cases hq : nthB (nthG (groupsC c) j).2 k
          · rw [hq] at m3 hsu
            have HSU := Lib.hid hsu
            clear hq hsu
            go_wp2_with fail
            go_roundw
            case rel => exact ⟨j + 1, by omega, by go_num, by rw [HSU.out]; simp, by simp⟩
            case measure => simp [intOf]; omega
          · rw [hq] at m3 hsu
            have HSU := Lib.hid hsu
            clear hq hsu
            go_wp2_with fail
            go_roundw
            case rel => exact ⟨j + 1, by omega, by go_num, by rw [HSU.out]; simp, by simp⟩
            case measure => simp [intOf]; omega
        · obtain rfl : j = (groupsC c).length := by omega
          obtain ⟨lo, hlo⟩ : ∃ lo, (refStart c k).1 = lo := ⟨_, rfl⟩
          obtain ⟨hiv, hhi⟩ : ∃ hiv, (refStart c k).2 = hiv := ⟨_, rfl⟩
          have hB7 := HBR.out.1.trans (H7.out.1.mono HBR.out.1.size)
          have hW57 : Below w5.heap.size w5 W7 := HR.out.2.trans (H7.out.1.mono hszr)
          have hx7 := blk_on HX5.out hW57
          obtain ⟨q0, q1, q2, q3⟩ := four_of hx7
          obtain ⟨br', offr', e3, _, hcr⟩ := HR3.out k hlt
          cases e3
          have d2 := (hB7.cell (p := ⟨br, offr + k, none⟩) HBR.out.2).trans hcr
          obtain ⟨a5, c5, e5, _, _, hs5⟩ := (hg5.out.on hW57).open
          rw [staysL_len] at e5 hs5
          cases e5
          obtain ⟨b6, o6, e6, _, ds⟩ := hs5 k hlt
          cases e6
          have hwr : IntKind.i64.wrap (caughtR c - minG (c.rooms.set k 0) (groupsC c) (pow2 c.rooms.length)) = lo := by
            have h1 := minG_bounds (roomOk_set HOK.out k) (pow2 c.rooms.length)
            have h2 := caughtTo_bound HOK.out (Nat.le_refl c.nights.length)
            have h3 := HOK.out.nights
            rw [← hlo, IntKind.wrap_i64]
            unfold refStart caughtR
            simp only
            omega
          have hrs : (refStart c k).2 = if nthB (staysL c (allL c.rooms.length c.rooms.length)) k = true ∨ nth c.rooms k < aloneS c k (groupsC c).length then nth c.rooms k else aloneS c k (groupsC c).length := rfl
          rw [hhi] at hrs
          have HSTA := Lib.hid (start_is HK.out hlt)
          have HLH := Lib.hid (And.intro hlo hhi)
          have HWR := Lib.hid hwr
          have HW57 := Lib.hid hW57
          have HX7 := Lib.hid hx7
          have hb0 : Hid (Below W7.heap.size W7 W7.drew) := (Below.refl _ _).drew
          have hP : W7.drew.cell? ⟨w.heap.size, 0, none⟩ = some (.slice (some ⟨br, offr, none⟩) c.rooms.length cr) ∧ W7.drew.cell? ⟨w.heap.size, 1, none⟩ = some (.slice at_ c.traps.length ct) ∧ W7.drew.cell? ⟨w.heap.size, 2, none⟩ = some (.slice au c.runs.length cu) ∧ W7.drew.cell? ⟨w.heap.size, 3, none⟩ = some (.slice an c.nights.length cn) ∧ Hid (Below w5.heap.size w5 W7.drew) := BoxB.of HX5.out hW57.drew
          have HPQ5 : Hid (∀ W, Hid (Below w5.heap.size w5 W) → BoxB w5 w.heap.size (.slice (some ⟨br, offr, none⟩) c.rooms.length cr) (.slice at_ c.traps.length ct) (.slice au c.runs.length cu) (.slice an c.nights.length cn) W) := fun W h => BoxB.of HX5.out h.out
          have HPQ : Hid (∀ W, Hid (Below W7.heap.size W7 W) → BoxB w5 w.heap.size (.slice (some ⟨br, offr, none⟩) c.rooms.length cr) (.slice at_ c.traps.length ct) (.slice au c.runs.length cu) (.slice an c.nights.length cn) W) := fun W h => BoxB.of HX5.out (hW57.trans (h.out.mono hW57.size))
          have HPA : Hid (∀ W o, Hid (Below W7.heap.size W7 W) → BoxB w5 w.heap.size (.slice (some ⟨br, offr, none⟩) c.rooms.length cr) (.slice at_ c.traps.length ct) (.slice au c.runs.length cu) (.slice an c.nights.length cn) (W.alloc o)) := fun W o h => BoxB.of HX5.out ((hW57.trans (h.out.mono hW57.size)).alloc (Nat.le_trans hW57.size h.out.size) _)
          have HCA : Hid (∀ W, Hid (Below W7.heap.size W7 W) → Calls Try.prog 117 #[.agg #[.slice (some ⟨br, offr, none⟩) c.rooms.length cr, .slice at_ c.traps.length ct, .slice au c.runs.length cu, .slice an c.nights.length cn]] W fun e w' => e = .returned (.int .i64 (caughtR c)) ∧ Hid (Below W7.heap.size W7 w')) := fun W h => (rcaught_any c _ _ _ _ W ((HC5.out.on hW57).on h.out) HOK.out).mono fun _ _ ⟨h1, h2⟩ => ⟨h1, h.out.trans (h2.mono h.out.size)⟩
          have HRM : Hid (∀ W, Hid (Below W7.heap.size W7 W) → Calls Try.prog 116 #[.agg #[.slice (some ⟨br, offr, none⟩) c.rooms.length cr, .slice at_ c.traps.length ct, .slice au c.runs.length cu, .slice an c.nights.length cn], .slice (some ⟨g6, 0, none⟩) c.rooms.length cap6, .slice a2 (groupsC c).length c2] W fun e w' => e = .returned (.int .i64 (minG (c.rooms.set k 0) (groupsC c) (pow2 c.rooms.length))) ∧ Hid (Below W7.heap.size W7 w')) := fun W h => (room_any c _ _ _ _ _ _ _ _ W ((HC5.out.on hW57).on h.out) o2 (H7.out.2.1.on h.out) (H7.out.2.2.2.on h.out) (roomOk_set HOK.out k)).mono fun _ _ ⟨h1, h2⟩ => ⟨h1, h.out.trans (h2.mono h.out.size)⟩
          have HOW : Hid (∀ W o, Hid (Below W7.heap.size W7 W) → (W.alloc o).ownsRow w5.heap.size 49 2 (.slice av k cv) k (pairsV (startsTo c k)) ∧ Hid (Below w5.heap.size w5 (W.alloc o)) ∧ w5.heap.size ≤ W.heap.size) := fun W o h => ⟨(owns_below H7.out.2.2.1 h.out).alloc o, (hW57.trans (h.out.mono hW57.size)).alloc (Nat.le_trans hW57.size h.out.size) _, Nat.le_trans hW57.size h.out.size⟩
          obtain ⟨i1, hj1, hy0, hy1, hy2⟩ := HI1.out
          rcases (by cases hst : nthB (staysL c (allL c.rooms.length c.rooms.length)) k; (by_cases hgt : nth c.rooms k < aloneS c k (groupsC c).length; exact .inl ⟨rfl, hgt, by rw [hrs, if_pos (.inr hgt)]⟩; exact .inr (.inl ⟨rfl, hgt, by rw [hrs, hst, if_neg (by simp; omega)]⟩)); exact .inr (.inr ⟨rfl, by rw [hrs, hst, if_pos (.inl rfl)]⟩) : (nthB (staysL c (allL c.rooms.length c.rooms.length)) k = false ∧ nth c.rooms k < aloneS c k (groupsC c).length ∧ hiv = nth c.rooms k) ∨ (nthB (staysL c (allL c.rooms.length c.rooms.length)) k = false ∧ ¬ nth c.rooms k < aloneS c k (groupsC c).length ∧ hiv = aloneS c k (groupsC c).length) ∨ (nthB (staysL c (allL c.rooms.length c.rooms.length)) k = true ∧ hiv = nth c.rooms k)) with ⟨e1, e2, e3⟩ | ⟨e1, e2, e3⟩ | ⟨e1, e3⟩
          all_goals
            rw [e1, Nat.zero_add] at ds
            have HE3 := Lib.hid e3
            clear hlo hhi hrs hW57 hx7 hcr hB7 hs5 e1 e3 hab hjl hj
            go_upto_region 20 with (fail)
            rw [← HE3.out]
            clear q0 q1 q2 q3 d2 ds HE3
            go_region_held3 (fun w' => w'.cell? ⟨w.heap.size, 0, none⟩ = some (.slice (some ⟨br, offr, none⟩) c.rooms.length cr) ∧ w'.cell? ⟨w.heap.size, 1, none⟩ = some (.slice at_ c.traps.length ct) ∧ w'.cell? ⟨w.heap.size, 2, none⟩ = some (.slice au c.runs.length cu) ∧ w'.cell? ⟨w.heap.size, 3, none⟩ = some (.slice an c.nights.length cn) ∧ Hid (Below w5.heap.size w5 w')) (first | with_reducible assumption | with_reducible exact HPQ5.out _ hb10 | with_reducible exact HPQ.out _ hb8 | with_reducible exact HPQ.out _ hb9 | with_reducible exact HPA.out _ _ hb8 | with_reducible exact HPA.out _ _ hb9 | fail) (first | (go_at_call 117; (first | with_reducible refine (HCA.out _ hb9).mono ?_ | with_reducible refine (HCA.out _ hb0).mono ?_); rintro e w8 ⟨rfl, hb8⟩) | (go_at_call 116; (first | with_reducible refine (HRM.out _ hb8).mono ?_ | with_reducible refine (HRM.out _ hb0).mono ?_); rintro e w9 ⟨rfl, hb9⟩) | ((obtain ⟨hOW, hBW, hSW⟩ := HOW.out w9 (.cells #[.int .i64 lo, .int .i64 hiv] 49) hb9); (refine step_append_lies _ (by rfl) _ _ _ (by rfl) w5.heap.size 49 i1 (.agg #[.int .i64 0, .int .i64 0]) 2 16 Try.underlying82 hj1 hy0 hy1 hy2 rfl (by decide) (.slice av k cv) k (pairsV (startsTo c k)) (by rfl) hOW ⟨w9.heap.size, 0, none⟩ 1 1 [.int .i64 lo, .int .i64 hiv] (by rfl) rfl (World.news_of_block (heap_alloc_new _ _)) (fun y hy => by simp at hy; rcases hy with rfl | rfl <;> rfl) (by decide) (by unfold maxLen; omega) (by omega) (by simp; omega) (w9.heap.size + 1) (by simp) ?_); intro g10 cap10 w10 hown10 hgrow10 _ _; have H10 := Lib.hid (And.intro hown10 hgrow10); have hb10 : Hid (Below w5.heap.size w5 w10) := below_grown hBW.out hgrow10 (fun r hr => (hOW.lt r hr).1) (by simp; omega); clear hown10 hgrow10 hOW hBW hSW) | ((obtain ⟨hOW, hBW, hSW⟩ := HOW.out w8 (.cells #[.int .i64 lo, .int .i64 hiv] 49) hb8); (refine step_append_lies _ (by rfl) _ _ _ (by rfl) w5.heap.size 49 i1 (.agg #[.int .i64 0, .int .i64 0]) 2 16 Try.underlying82 hj1 hy0 hy1 hy2 rfl (by decide) (.slice av k cv) k (pairsV (startsTo c k)) (by rfl) hOW ⟨w8.heap.size, 0, none⟩ 1 1 [.int .i64 lo, .int .i64 hiv] (by rfl) rfl (World.news_of_block (heap_alloc_new _ _)) (fun y hy => by simp at hy; rcases hy with rfl | rfl <;> rfl) (by decide) (by unfold maxLen; omega) (by omega) (by simp; omega) (w8.heap.size + 1) (by simp) ?_); intro g10 cap10 w10 hown10 hgrow10 _ _; have H10 := Lib.hid (And.intro hown10 hgrow10); have hb10 : Hid (Below w5.heap.size w5 w10) := below_grown hBW.out hgrow10 (fun r hr => (hOW.lt r hr).1) (by simp; omega); clear hown10 hgrow10 hOW hBW hSW) | fail)
            all_goals
              have HN := Lib.hid (And.intro H10.out.1 hb10.out)
              clear hP HPQ HPQ5 HPA HCA HRM hb0 hb8 hb9 hb10 H10 HOW
              go_wp2_with fail
              go_roundw
              case rel =>
                refine ⟨k + 1, by omega, by go_num, ?_, HN.out.2⟩
                rw [startsTo_succ, pairsV_app, HSTA.out, show refStart c k = (lo, hiv) from Prod.ext HLH.out.1 HLH.out.2]
                exact HN.out.1
              case measure => simp [intOf]; omega
    · obtain rfl : k = c.rooms.length := by omega
      go_wp2_with fail
      go_ret2
      refine ⟨_, rfl, pairs_of_owns (b := w5.heap.size) (e := 49) (by rw [startsC, startsTo_len]; exact HR.out.1) (starts_i64 HK.out) (by rw [startsC, startsTo_len]; omega), HB5.out.trans (HR.out.2.mono HB5.out.size)⟩
end Go.Proofs.Ytnhifinfjfpoiaa

namespace Go.Proofs.Ytnhifinfjfpoiaa
open Go.RowKit
set_option linter.unusedVariables false

theorem Starts_bad (c : Col) (r t u n : Value) (w : World) (hc : ColAt w w.heap.size r t u n c) (hk : ¬ fitErr c = 0) :
    Calls Try.prog 54 #[.agg #[r, t, u, n]] w fun e w' => e = .returned (.tuple #[.slice none 0 0, .int .i64 (fitErr c)]) ∧ Below w.heap.size w w' := by
  have hBW : Below w.heap.size w (w.alloc (.cells #[r, t, u, n] 26)) := (Below.refl w.heap.size w).alloc (Nat.le_refl _) _
  have hcA := (hc.below hBW (Nat.le_refl _)).mono (B' := (w.alloc (.cells #[r, t, u, n] 26)).heap.size) (by simp)
  have HCK := Lib.hid (fitting_bad c r t u n _ hcA hk)
  obtain ⟨hr, htr, hu, hn⟩ := hc
  obtain ⟨ar, cr, rfl, _⟩ := hr.open
  obtain ⟨at_, ct, rfl, _⟩ := htr.open
  obtain ⟨au, cu, rfl, _⟩ := hu.open
  obtain ⟨an, cn, rfl, _⟩ := hn.open
  have HB := Lib.hid hBW
  have hk1 : (fitErr c == 0) = false := by simpa using hk
  have hk2 : (fitErr c != 0) = true := by simp [bne, hk1]
  clear hr htr hu hn hBW hk hcA
  go_enter Try.func54, Try.ntmps54
  go_wp2_with fail
  refine HCK.out.mono ?_
  rintro e w1 ⟨rfl, hb1⟩
  go_wp2_with fail
  go_ret2
  exact ⟨rfl, HB.out.trans (hb1.mono (by simp))⟩
theorem rStarts_bad (c : Col) (r t u n : Value) (w : World) (hc : ColAt w w.heap.size r t u n c) (hk : ¬ fitErr c = 0) :
    Calls Try.prog 70 #[.agg #[r, t, u, n]] w fun e w' => e = .returned (.tuple #[.slice none 0 0, .int .i64 (fitErr c)]) ∧ Below w.heap.size w w' := by
  have hBW : Below w.heap.size w (w.alloc (.cells #[r, t, u, n] 32)) := (Below.refl w.heap.size w).alloc (Nat.le_refl _) _
  have hcA := (hc.below hBW (Nat.le_refl _)).mono (B' := (w.alloc (.cells #[r, t, u, n] 32)).heap.size) (by simp)
  have HCK := Lib.hid (rfitting_any c r t u n _ hcA)
  rw [rfit_is] at HCK
  obtain ⟨hr, htr, hu, hn⟩ := hc
  obtain ⟨ar, cr, rfl, _⟩ := hr.open
  obtain ⟨at_, ct, rfl, _⟩ := htr.open
  obtain ⟨au, cu, rfl, _⟩ := hu.open
  obtain ⟨an, cn, rfl, _⟩ := hn.open
  have HB := Lib.hid hBW
  have hk1 : (fitErr c == 0) = false := by simpa using hk
  have hk2 : (fitErr c != 0) = true := by simp [bne, hk1]
  clear hr htr hu hn hBW hk hcA
  go_enter Try.func70, Try.ntmps70
  go_wp2_with fail
  refine HCK.out.mono ?_
  rintro e w1 ⟨rfl, hb1⟩
  go_wp2_with fail
  go_ret2
  exact ⟨rfl, HB.out.trans (hb1.mono (by simp))⟩
theorem starts_nil (w : World) (B : Nat) : IsPairs w B (.slice none 0 0) [] := ⟨⟨none, 0, rfl, Nat.le_refl _, by simp, .inl rfl⟩, fun p hp => by cases hp⟩
def startsV (c : Col) : List (Int × Int) := if fitErr c = 0 then startsC c else []
theorem starts_both (c : Col) (r t u n : Value) (w : World) (hc : ColAt w w.heap.size r t u n c) :
    (Calls Try.prog 54 #[.agg #[r, t, u, n]] w fun e w' => ∃ v, e = .returned (.tuple #[v, .int .i64 (fitErr c)]) ∧ IsPairs w' w'.heap.size v (startsV c) ∧ Below w.heap.size w w') ∧
    (Calls Try.prog 70 #[.agg #[r, t, u, n]] w fun e w' => ∃ v, e = .returned (.tuple #[v, .int .i64 (fitErr c)]) ∧ IsPairs w' w'.heap.size v (startsV c) ∧ Below w.heap.size w w') := by
  unfold startsV
  by_cases q : fitErr c = 0
  · rw [if_pos q, q]
    exact ⟨Starts_ok c r t u n w hc q, rStarts_ok c r t u n w hc q⟩
  · rw [if_neg q]
    exact ⟨(Starts_bad c r t u n w hc q).mono fun _ w' ⟨h1, h2⟩ => ⟨_, h1, starts_nil w' _, h2⟩, (rStarts_bad c r t u n w hc q).mono fun _ w' ⟨h1, h2⟩ => ⟨_, h1, starts_nil w' _, h2⟩⟩
end Go.Proofs.Ytnhifinfjfpoiaa

namespace Go.Proofs.Ytnhifinfjfpoiaa
open Go.RowKit
set_option linter.unusedVariables false

theorem step_append_lies0 {P : Program} {w : World} {ops : Array Oper} {o : Oper} {a : Act} {K : Act → World → Prop} {Q : Exit → Act → World → Prop} {E : Prop} (hgd : o.guard = none) (s x : Operand) (t : TypeId)
    (ho : o.op = .call { callee := .builtin .append, args := #[s, x], argTypes := #[t, t] })
    (base : Nat) (e : TypeId) (i : TypeInfo) (z : Value) (size bytes : Nat) (ht : P.underlying t = some (.slice e)) (hi : P.info? e = some i) (hz : i.zero = some z)
    (hsize : i.size = size) (hby : i.bytes = bytes) (hzs : z.cells.size = size) (hsz : 0 < size)
    (g0 n q0 : Nat) (xs : List Value) (hs : a.eval s = .slice (some ⟨g0, 0, none⟩) n q0) (hown : w.ownsRow base e size (.slice (some ⟨g0, 0, none⟩) n q0) n xs)
    (ad : Option Addr) (m c : Nat) (hmc : m ≤ c) (news : List Value) (hx : a.eval x = .slice ad m c) (hl : news.length = m * size) (hnews : 0 < m → ∃ b off, ad = some ⟨b, off, none⟩ ∧ ∀ j u, news[j]? = some u → w.cell? ((⟨b, off, none⟩ : Addr).add j) = some u) (h1 : ∀ u ∈ news, u.oneCell' = true)
    (h63 : n + m ≤ maxLen) (hbytes : (n + m) * bytes ≤ 140737488355328) (hbase : base ≤ w.heap.size)
    (h : ∀ g cap w', w'.ownsRow base e size (.slice (some ⟨g, 0, none⟩) (n + m) cap) (n + m) (xs ++ news) → w.grownBy w' (some g0) → K (a.put o.dst (.slice (some ⟨g, 0, none⟩) (n + m) cap)) w') :
    if Region.wanted o (yielded ops a.tmps) = true then Oper.wp P o a w K Q else E := by
  rcases Nat.eq_zero_or_pos m with h0 | h0
  · subst h0
    have hw : Region.wanted o (yielded ops a.tmps) = true := by simp [Region.wanted, hgd]
    rw [if_pos hw]
    have hn0 : news = [] := List.length_eq_zero_iff.1 (by omega)
    subst hn0
    have hcap : n ≤ q0 := by
      rcases hown.2 with ⟨hc, _⟩ | ⟨g, cap, cur, hc, _, _, hnc, _⟩
      · cases hc
      · cases hc; exact hnc
    have hsrc : Src P i.size t (.slice ad 0 c) 0 [] w := by
      refine ⟨.inl ⟨e, ht⟩, fun w' => ?_, ?_, ?_, by simp, by simp⟩
      · simp [Builtin.lenOf]
      · cases ad <;> simp [Builtin.firstCells, loadCells, loadCellsFrom]
      · cases ad <;> simp [Builtin.firstCells, loadCells, loadCellsFrom]
    have hrun := run_append_nothing (P := P) w t t o.type e i ht hi (some ⟨g0, 0, none⟩) n q0 hcap (.slice ad 0 c) hsrc
    unfold Oper.wp
    simp [execOp, ho, resolve, invoke, builtin, hs, hx, hrun, Result.andThen]
    have := h g0 q0 w (by simpa using hown) ⟨rfl, rfl, rfl, Nat.le_refl _, fun _ _ _ => rfl⟩
    show K (a.put o.dst (.slice (some ⟨g0, 0, none⟩) n q0)) w
    simpa using this
  · obtain ⟨b, off, rfl, hc⟩ := hnews h0
    exact step_append_lies (w := w) hgd s x t ho base e i z size bytes ht hi hz hsize hby hzs hsz (.slice (some ⟨g0, 0, none⟩) n q0) n xs hs hown ⟨b, off, none⟩ m c news hx hl hc h1 h0 h63 hbytes hbase w.heap.size rfl (fun g cap w' h2 h3 _ _ => h g cap w' h2 h3)
end Go.Proofs.Ytnhifinfjfpoiaa

namespace Go.Proofs.Ytnhifinfjfpoiaa
open Go.RowKit
set_option linter.unusedVariables false
set_option linter.unusedSimpArgs false

theorem grown_read2 {W w1 : World} {B b5 n5 : Nat} {v' sl : Value} {gl : List (Int × List Bool)} {us : List Value} {x : Int} {L : List Bool} (hB : B ≤ W.heap.size) (h40 : gl.length ≤ 1000) (h6 : ∀ j, j < gl.length → (nthG gl j).2.length ≤ 1000) (h0 : us.length = gl.length)
    (h1 : W.ownsRow B 158 2 sl gl.length (zipV gl us)) (h2 : ∀ j, j < gl.length → W.ownsRow B 4 1 (us.getD j (.slice none 0 0)) (nthG gl j).2.length ((nthG gl j).2.map Value.bool))
    (hu : BoolsAt W b5 L) (hL : L.length = n5) (hL6 : n5 ≤ 100) (hown : w1.ownsRow B 158 2 v' (gl.length + 1) (zipV gl us ++ [.int .i64 x, .slice (some ⟨b5, 0, none⟩) n5 n5])) (hg : W.grownBy w1 sl.ownBlock) : IsGroups w1 w1.heap.size v' (gl ++ [(x, L)]) := by
  subst hL
  have hu1 : BoolsAt w1 b5 L := (hg.block b5 (Array.getElem?_eq_some_iff.1 hu).1 (not_own h1 hu (by decide))).trans hu
  refine groups_of_row (us := us ++ [.slice (some ⟨b5, 0, none⟩) L.length L.length]) (by rw [List.length_append, List.length_singleton, zipV_snoc gl us (x, L) _ h0]; exact hown) (by simp; omega) fun j hj => ?_
  by_cases hl : j < gl.length
  · have e1 : nthG (gl ++ [(x, L)]) j = nthG gl j := by unfold nthG; rw [List.getD_eq_getElem?_getD, List.getD_eq_getElem?_getD, List.getElem?_append_left (by omega)]
    have e2 : (us ++ [Value.slice (some ⟨b5, 0, none⟩) L.length L.length]).getD j (.slice none 0 0) = us.getD j (.slice none 0 0) := by rw [List.getD_eq_getElem?_getD, List.getD_eq_getElem?_getD, List.getElem?_append_left (by omega)]
    rw [e1, e2]
    exact bools_of_owns (owns_grown (h2 j hl) hg (fun g cs hc => not_own h1 hc (by decide))) (by have := h6 j hl; omega)
  · obtain rfl : j = gl.length := by simp at hj; omega
    have e1 : nthG (gl ++ [(x, L)]) gl.length = (x, L) := by unfold nthG; simp
    have e2 : (us ++ [Value.slice (some ⟨b5, 0, none⟩) L.length L.length]).getD gl.length (.slice none 0 0) = .slice (some ⟨b5, 0, none⟩) L.length L.length := by rw [← h0, List.getD_eq_getElem?_getD, List.getElem?_append_right (Nat.le_refl _)]; simp
    rw [e1, e2]
    exact hu1.is hL6

/-- The rows' own values. -/
def valsT (f : Nat → Value) (n : Nat) : List Value := (List.range n).map f
theorem valsT_len (f : Nat → Value) (n : Nat) : (valsT f n).length = n := by simp [valsT]
structure RowsSrc (w6 : World) (aT : Option Addr) (T : List (List Int)) (f : Nat → Value) : Prop where
  at_ : 0 < T.length → ∃ b off, aT = some ⟨b, off, none⟩ ∧ b < w6.heap.size ∧ ∀ j, j < T.length → w6.cell? ⟨b, off + j, none⟩ = some (f j)
  one : ∀ j, j < T.length → ∃ a n q, f j = .slice a n q
  len : T.length ≤ 100

theorem stepA1 {w : World} {ops : Array Oper} {o : Oper} {a : Act} {K : Act → World → Prop} {Q : Exit → Act → World → Prop} {E : Prop} (hgd : o.guard = none) (s x : Operand)
    (ho : o.op = .call { callee := .builtin .append, args := #[s, x], argTypes := #[24, 24] })
    {w6 : World} {aT : Option Addr} {qT : Nat} {T : List (List Int)} {f : Nat → Value} (g0 : Nat) (hs : a.eval s = .slice (some ⟨g0, 0, none⟩) 0 0) (hx : a.eval x = .slice aT T.length qT) (hq : T.length ≤ qT)
    (hE : w.heap[g0]? = some (.cells #[] 22 (0, 0))) (hb : Hid (Below w6.heap.size w6 w)) (hB : w6.heap.size ≤ g0) (hT : Hid (RowsSrc w6 aT T f))
    (h : ∀ g cap w', Hid (w'.ownsRow w6.heap.size 22 1 (.slice (some ⟨g, 0, none⟩) T.length cap) T.length (valsT f T.length)) → Hid (w.grownBy w' (some g0)) → Hid (Below w6.heap.size w6 w') → K (a.put o.dst (.slice (some ⟨g, 0, none⟩) T.length cap)) w') :
    if Region.wanted o (yielded ops a.tmps) = true then Oper.wp Try.prog o a w K Q else E := by
  obtain ⟨i0, hi, hz0, hz1, hz2⟩ := info_parts infoRow
  have hown : w.ownsRow w6.heap.size 22 1 (.slice (some ⟨g0, 0, none⟩) 0 0) 0 [] := ⟨rfl, .inr ⟨g0, 0, #[], rfl, hB, hE, Nat.le_refl _, by unfold maxLen; omega, rfl, rfl⟩⟩
  have hlen := hT.out.len
  refine step_append_lies0 hgd s x 24 ho w6.heap.size 22 i0 (.slice none 0 0) 1 24 Try.underlying24 hi hz0 hz1 hz2 rfl (by decide) g0 0 0 [] hs hown aT T.length qT hq (valsT f T.length) hx (by rw [valsT_len, Nat.mul_one]) (fun h0 => ?_) (fun u hu => ?_) (by unfold maxLen; omega) (by omega) hb.out.size (fun g cap w' h1 h2 => ?_)
  · obtain ⟨b, off, ha, hlt, hc⟩ := hT.out.at_ h0
    refine ⟨b, off, ha, fun j u hj => ?_⟩
    have hjn : j < T.length := by have := (List.getElem?_eq_some_iff.1 hj).1; rw [valsT_len] at this; exact this
    rw [Addr.add_lit]
    refine (hb.out.cell (p := ⟨b, off + j, none⟩) hlt).trans ((hc j hjn).trans ?_)
    rw [← hj]; simp [valsT, hjn]
  · obtain ⟨j, hj, rfl⟩ := List.mem_map.1 hu
    obtain ⟨a', n', q', e⟩ := hT.out.one j (List.mem_range.1 hj)
    rw [e]; rfl
  · rw [Nat.zero_add] at h1 ⊢
    rw [List.nil_append] at h1
    exact h g cap w' h1 h2 (below_grown hb.out h2 (fun r hr => by cases hr; exact hB) hb.out.size)
theorem stepA2 {w : World} {ops : Array Oper} {o : Oper} {a : Act} {K : Act → World → Prop} {Q : Exit → Act → World → Prop} {E : Prop} (hgd : o.guard = none) (s x : Operand)
    (ho : o.op = .call { callee := .builtin .append, args := #[s, x], argTypes := #[24, 24] })
    {w6 : World} {n q8 : Nat} {vs : List Value} {aL : Option Addr} {nL qL : Nat} (g8 gO : Nat) (hs : a.eval s = .slice (some ⟨g8, 0, none⟩) n q8) (hx : a.eval x = .slice (some ⟨gO, 0, none⟩) 1 1) (hn : n ≤ 100)
    (hown : Hid (w.ownsRow w6.heap.size 22 1 (.slice (some ⟨g8, 0, none⟩) n q8) n vs)) (hO : w.heap[gO]? = some (.cells #[.slice aL nL qL] 22 (0, 0))) (hb : Hid (Below w6.heap.size w6 w))
    (h : ∀ g cap w', Hid (w'.ownsRow w6.heap.size 22 1 (.slice (some ⟨g, 0, none⟩) (n + 1) cap) (n + 1) (vs ++ [.slice aL nL qL])) → Hid (Below w6.heap.size w6 w') → K (a.put o.dst (.slice (some ⟨g, 0, none⟩) (n + 1) cap)) w') :
    if Region.wanted o (yielded ops a.tmps) = true then Oper.wp Try.prog o a w K Q else E := by
  obtain ⟨i0, hi, hz0, hz1, hz2⟩ := info_parts infoRow
  refine step_append_lies w hgd s x 24 ho w6.heap.size 22 i0 (.slice none 0 0) 1 24 Try.underlying24 hi hz0 hz1 hz2 rfl (by decide) _ n vs hs hown.out ⟨gO, 0, none⟩ 1 1 [.slice aL nL qL] hx rfl (World.news_of_block hO) (fun y hy => by simp at hy; subst hy; rfl) (by decide) (by unfold maxLen; omega) (by omega) hb.out.size w.heap.size rfl (fun g cap w' h1 h2 _ _ => ?_)
  exact h g cap w' h1 (below_grown hb.out h2 (fun r hr => (hown.out.lt r hr).1) hb.out.size)
theorem rows_read {w : World} {B : Nat} {v : Value} {vs : List Value} {A : List (List Int)} (h1 : w.ownsRow B 22 1 v A.length vs) (h2 : ∀ j, j < A.length → IsInts w w.heap.size (vs.getD j (.slice none 0 0)) (nthR A j)) (hl : A.length ≤ 1000) : IsRows w w.heap.size v A := by
  obtain ⟨hvl, h1⟩ := h1
  refine ⟨fun j => vs.getD j (.slice none 0 0), ?_, h2⟩
  rcases h1 with ⟨rfl, hn⟩ | ⟨g, cap, cur, rfl, hg, hc, hn, hm, hs, ht⟩
  · exact ⟨none, 0, by rw [hn], by omega, by omega, .inl hn⟩
  · refine ⟨some ⟨g, 0, none⟩, cap, rfl, hn, by omega, .inr ⟨g, 0, rfl, (Array.getElem?_eq_some_iff.1 hc).1, fun j hj => ?_⟩⟩
    refine (cell_of_row w g (0 + j) _ _ _ hc).trans ?_
    rw [Nat.mul_one] at ht hj hvl
    have this : j < cur.toList.length := by simp; omega
    have e2 : (List.take A.length cur.toList).getD j (.slice none 0 0) = cur.toList[j]'this := by rw [List.getD_eq_getElem?_getD, List.getElem?_take, if_pos hj, List.getElem?_eq_getElem this]; rfl
    rw [Nat.zero_add, ← Array.getElem?_toList, ← ht]
    show _ = some ((List.take A.length cur.toList).getD j (.slice none 0 0))
    rw [e2, List.getElem?_eq_getElem this]
end Go.Proofs.Ytnhifinfjfpoiaa

namespace Go.Proofs.Ytnhifinfjfpoiaa
open Go.RowKit
set_option linter.unusedVariables false

def allR (T : List (List Int)) (L : List Int) : List (List Int) := T ++ [L]
theorem allR_row {T : List (List Int)} {L : List Int} {k : Nat} (h : k < T.length) : nthR (allR T L) k = nthR T k := by
  unfold nthR allR; rw [List.getD_eq_getElem?_getD, List.getD_eq_getElem?_getD, List.getElem?_append_left h]
theorem allR_last (T : List (List Int)) (L : List Int) : nthR (allR T L) T.length = L := by unfold nthR allR; simp
theorem allR_len (T : List (List Int)) (L : List Int) : (allR T L).length = T.length + 1 := by simp [allR]
/-- Can rats of row k have come from a house? -/
def srcBit (c : Col) (k j : Nat) : Bool := if k < (needsC c).length then (frm (needsC c) k).testBit j else (unionN (leftC c)).testBit j
def cellR (c : Col) (A : List (List Int)) (k j : Nat) : Prop := 0 ≤ nth (nthR A k) j ∧ nth (nthR A k) j ≤ 60 ∧ (0 < nth (nthR A k) j → srcBit c k j = true)
structure RefP (c : Col) (A : List (List Int)) : Prop where
  cell : ∀ k, k < (needsC c).length + 1 → ∀ j, j < c.rooms.length → cellR c A k j
  row : ∀ k, k < (needsC c).length → sumN (nth (nthR A k)) c.rooms.length = (nthP (needsC c) k).1
  col : ∀ h, h < c.rooms.length → sumN (fun i => nth (nthR A i) h) ((needsC c).length + 1) ≤ nth c.rooms h
theorem col_all {c : Col} {T : List (List Int)} {L : List Int} (hT : T.length = (needsC c).length) (h : Nat) : sumN (fun i => nth (nthR (allR T L) i) h) ((needsC c).length + 1) = sumN (fun k => nth (nthR T k) h) (needsC c).length + nth L h := by
  rw [sumN_succ, ← hT, allR_last]
  congr 1
  exact sumN_congr fun i hi => by rw [allR_row hi]
theorem fits_ref {c : Col} (ok : OkCol c) {T : List (List Int)} {L : List Int} (hT : T.length = (needsC c).length) : FitsP c T L ↔ RefP c (allR T L) := by
  constructor
  · intro f
    have hcol : ∀ h, h < c.rooms.length → sumN (fun i => nth (nthR (allR T L) i) h) ((needsC c).length + 1) ≤ nth c.rooms h := fun h hh => by rw [col_all hT]; exact f.col h hh
    have hnn : ∀ k, k < (needsC c).length + 1 → ∀ j, j < c.rooms.length → 0 ≤ nth (nthR (allR T L) k) j := fun k hk j hj => by
      by_cases e : k = (needsC c).length
      · subst e; rw [← hT, allR_last]; exact (f.left j hj).1
      · rw [allR_row (by omega)]; exact (f.cell k (by omega) j hj).1
    refine ⟨fun k hk j hj => ⟨hnn k hk j hj, ?_, fun hp => ?_⟩, fun k hk => by rw [allR_row (by omega)]; exact f.row k hk, hcol⟩
    · have h1 := sumN_ge (f := fun i => nth (nthR (allR T L) i) j) (n := (needsC c).length + 1) (k := k) (fun i hi => hnn i hi j hj) hk
      have h2 := hcol j hj
      have h3 := ok.rooms6 j (by have := ok.houses.2; omega)
      omega
    · unfold srcBit
      by_cases e : k = (needsC c).length
      · rw [if_neg (by omega)]
        subst e; rw [← hT, allR_last] at hp; exact (f.left j hj).2 hp
      · rw [if_pos (by omega)]
        rw [allR_row (by omega)] at hp; exact (f.cell k (by omega) j hj).2 hp
  · intro f
    refine ⟨fun k hk j hj => ?_, fun k hk => ?_, fun j hj => ?_, fun h hh => by rw [← col_all hT]; exact f.col h hh⟩
    · have := f.cell k (by omega) j hj
      unfold cellR srcBit at this
      rw [if_pos hk, allR_row (by omega)] at this
      exact ⟨this.1, this.2.2⟩
    · have := f.row k hk
      rw [allR_row (by omega)] at this; exact this
    · have := f.cell (needsC c).length (by omega) j hj
      unfold cellR srcBit at this
      rw [if_neg (Nat.lt_irrefl _), ← hT, allR_last] at this
      exact ⟨this.1, this.2.2⟩
/-- The reference's groups, and one of those that are left, say the same. -/
def groupsL (c : Col) : List (Int × List Bool) := groupsC c ++ [(0, staysL c (allL c.rooms.length c.rooms.length))]
theorem groupsL_len {c : Col} (ok : OkCol c) : (groupsL c).length = (needsC c).length + 1 := by
  have := (like_all ok).1
  simp [groupsL, this]
theorem groupsL_bit {c : Col} (ok : OkCol c) {k j : Nat} (hk : k < (needsC c).length + 1) (hj : j < c.rooms.length) : nthB (nthG (groupsL c) k).2 j = srcBit c k j := by
  have hl := (like_all ok).1
  unfold groupsL srcBit
  by_cases e : k < (needsC c).length
  · rw [if_pos e, nthG_left (by omega)]
    have h1 := from_len (c := c) (i := k) (by omega)
    exact (like_all ok).bit (by omega) (by rw [h1]; exact ok.houses.2) (by rw [h1]; exact hj)
  · obtain rfl : k = (needsC c).length := by omega
    rw [if_neg e, ← hl, nthG_last]
    have h1 := stays_all ok j
    rw [staysL_len] at h1
    cases h2 : (unionN (leftC c)).testBit j
    · cases h3 : nthB (staysL c (allL c.rooms.length c.rooms.length)) j
      · rfl
      · rw [h1.2 ⟨hj, h3⟩] at h2; cases h2
    · exact (h1.1 h2).2
theorem groupsL_rats {c : Col} (ok : OkCol c) {k : Nat} (hk : k < (needsC c).length) : (nthG (groupsL c) k).1 = (nthP (needsC c) k).1 := by
  have hl := (like_all ok).1
  unfold groupsL
  rw [nthG_left (by omega)]
  exact ((like_all ok).2 k (by omega)).1
theorem groupsL_from {c : Col} {k : Nat} (hk : k < (groupsL c).length) : (nthG (groupsL c) k).2.length = c.rooms.length := by
  unfold groupsL at hk ⊢
  by_cases e : k < (groupsC c).length
  · rw [nthG_left e]; exact from_len e
  · obtain rfl : k = (groupsC c).length := by simp at hk; omega
    rw [nthG_last]; exact staysL_len _ _
end Go.Proofs.Ytnhifinfjfpoiaa

namespace Go.Proofs.Ytnhifinfjfpoiaa
open Go.RowKit
set_option linter.unusedVariables false
set_option linter.unusedSimpArgs false

theorem truth_at' {W : World} {p t : Nat} {a b : Value} (h : W.heap[p]? = some (.cells #[a, b] t (0, 0))) : W.cell? ⟨p, 0, none⟩ = some a ∧ W.cell? ⟨p, 1, none⟩ = some b :=
  ⟨(cell_of_row _ _ 0 _ _ _ h).trans rfl, (cell_of_row _ _ 1 _ _ _ h).trans rfl⟩
theorem rows_cells {w : World} {B : Nat} {a : Option Addr} {q n : Nat} {T : List (List Int)} (h : IsRows w B (.slice a n q) T) : ∃ f : Nat → Value, (∀ j, j < T.length → IsInts w B (f j) (nthR T j)) ∧ (0 < T.length → ∃ b off, a = some ⟨b, off, none⟩ ∧ b < B ∧ ∀ j, j < T.length → w.cell? ⟨b, off + j, none⟩ = some (f j)) := by
  obtain ⟨f, ⟨a', cap, hv, h1, h2, h3⟩, h4⟩ := h
  cases hv
  refine ⟨f, h4, fun h0 => ?_⟩
  rcases h3 with h3 | ⟨b, off, ha, hlt, hc⟩
  · omega
  · exact ⟨b, off, ha, hlt, fun j hj => hc j (by omega)⟩

/-- What Fits answers. -/
def FitsPost (c : Col) (T : List (List Int)) (L : List Int) (err : Int) (w : World) (e : Ending) (w' : World) : Prop :=
  ∃ b, e = .returned (.tuple #[.bool b, .int .i64 err]) ∧ (err = 0 → (b = true ↔ FitsP c T L)) ∧ (¬ err = 0 → b = false) ∧ Below w.heap.size w w'
theorem fp_err {c : Col} {T : List (List Int)} {L : List Int} {err : Int} {w w' : World} (h : ¬ err = 0) (hb : Below w.heap.size w w') : FitsPost c T L err w (.returned (.tuple #[.bool false, .int .i64 err])) w' :=
  ⟨false, rfl, fun e => absurd e h, fun _ => rfl, hb⟩
theorem fp_no {c : Col} {T : List (List Int)} {L : List Int} {w w' : World} (h : ¬ FitsP c T L) (hb : Below w.heap.size w w') : FitsPost c T L 0 w (.returned (.tuple #[.bool false, .int .i64 0])) w' :=
  ⟨false, rfl, fun _ => ⟨fun e => (by cases e), fun e => absurd e h⟩, fun e => absurd rfl e, hb⟩
theorem fp_yes {c : Col} {T : List (List Int)} {L : List Int} {w w' : World} (h : FitsP c T L) (hb : Below w.heap.size w w') : FitsPost c T L 0 w (.returned (.tuple #[.bool true, .int .i64 0])) w' :=
  ⟨true, rfl, fun _ => ⟨fun _ => h, fun _ => rfl⟩, fun e => absurd rfl e, hb⟩
/-- All lists of a truth, read. -/
def MidF (w6 wx : World) (s10 : Value) (A : List (List Int)) : Prop := ∃ a q, s10 = .slice a A.length q ∧ IsRows wx wx.heap.size s10 A ∧ Below w6.heap.size w6 wx

set_option maxRecDepth 100000 in
set_option maxHeartbeats 4000000 in
theorem rFits_any (c : Col) (r t u n tv lv : Value) (T : List (List Int)) (L : List Int) (w : World) (hc : ColAt w w.heap.size r t u n c) (ht : IsRows w w.heap.size tv T) (hl : IsInts w w.heap.size lv L) (hT100 : T.length ≤ 100) :
    Calls Try.prog 68 #[.agg #[r, t, u, n], .agg #[tv, lv]] w (FitsPost c T L (fitsErr c T L) w) := by
  have hBW : Below w.heap.size w ((w.alloc (.cells #[r, t, u, n] 32)).alloc (.cells #[tv, lv] 100)) := ((Below.refl w.heap.size w).alloc (Nat.le_refl _) _).alloc (by simp) _
  have hcA := hc.on hBW
  have hx : ((w.alloc (.cells #[r, t, u, n] 32)).alloc (.cells #[tv, lv] 100)).heap[w.heap.size]? = some (.cells #[r, t, u, n] 32 (0, 0)) := keep _ (blk _ _ _ _ rfl)
  have hy : ((w.alloc (.cells #[r, t, u, n] 32)).alloc (.cells #[tv, lv] 100)).heap[w.heap.size + 1]? = some (.cells #[tv, lv] 100 (0, 0)) := blk _ _ _ _ (by simp)
  have HCK := Lib.hid (rcheck_any c r t u n _ hcA)
  obtain ⟨hr, htr, hu, hn⟩ := hc
  have HRI := Lib.hid hr
  obtain ⟨ar, cr, rfl, _⟩ := hr.open
  obtain ⟨at_, ct, rfl, _⟩ := htr.open
  obtain ⟨au, cu, rfl, _⟩ := hu.open
  obtain ⟨an, cn, rfl, _⟩ := hn.open
  obtain ⟨aT, qT, rfl, qTle, T140, T3⟩ := ht.open
  obtain ⟨aL, qL, rfl, _, L140, _⟩ := hl.open
  have HQT := Lib.hid qTle
  have HB := Lib.hid hBW; have HX := Lib.hid hx; have HY := Lib.hid hy; have HC := Lib.hid hcA; have HT := Lib.hid ht; have HL := Lib.hid hl; have HT3 := Lib.hid T3
  clear hr htr hu hn hl ht hBW hx hy hcA T3
  rcases fitsErr_cases c T L with ⟨q, e⟩ | ⟨q, q1, e⟩ | ⟨q, q1, q2, e⟩ | ⟨q, q1, q2, q3, e⟩ | ⟨q, q1, q2, q3, e⟩
  · rw [e]
    have hk1 : (checkC c == 0) = false := by simpa using q
    have hk2 : (checkC c != 0) = true := by simp [bne, hk1]
    have HQ := Lib.hid q
    clear q e
    go_enter Try.func68, Try.ntmps68
    go_wp2_with fail
    refine HCK.out.mono ?_
    rintro e w1 ⟨rfl, hb1⟩
    have H1 := Lib.hid hb1
    clear hb1
    go_wp2_with fail
    go_ret2
    exact fp_err HQ.out (HB.out.trans (H1.out.mono HB.out.size))
  · rw [e]
    have ok := okCol_of q
    have o1 := ok.houses.1; have o2 := ok.houses.2; have o3 := ok.nights
    obtain ⟨M, hM⟩ : ∃ M : Nat, c.rooms.length * c.nights.length = M := ⟨_, rfl⟩
    have hmul : (c.rooms.length : Int) * (c.nights.length : Int) = (M : Int) := by rw [← hM]; simp
    have hM36 : M ≤ 36 := by rw [← hM]; exact Nat.mul_le_mul o2 o3
    rw [hM] at q1
    have d1 : ((T.length : Int) != (M : Int)) = true := by simp; omega
    have d2 : (T.length != M) = true := by simpa using q1
    rw [q] at HCK
    clear q e q1 hM ok
    go_enter Try.func68, Try.ntmps68
    go_wp2_with fail
    refine HCK.out.mono ?_
    rintro e w1 ⟨rfl, hb1⟩
    obtain ⟨x0, x1, x2, x3⟩ := four_of (blk_on HX.out hb1)
    obtain ⟨y0, y1⟩ := truth_at' (blk_on HY.out hb1)
    have H1 := Lib.hid hb1
    clear hb1
    go_wp2_with fail
    go_ret2
    exact fp_err (by decide) (HB.out.trans (H1.out.mono HB.out.size))
  · rw [e]
    have ok := okCol_of q
    have o1 := ok.houses.1; have o2 := ok.houses.2; have o3 := ok.nights
    obtain ⟨M, hM⟩ : ∃ M : Nat, c.rooms.length * c.nights.length = M := ⟨_, rfl⟩
    have hmul : (c.rooms.length : Int) * (c.nights.length : Int) = (M : Int) := by rw [← hM]; simp
    have hM36 : M ≤ 36 := by rw [← hM]; exact Nat.mul_le_mul o2 o3
    rw [hM] at q1
    have d1 : ((T.length : Int) != (M : Int)) = false := by simp; omega
    have d2 : (T.length != M) = false := by simpa using q1
    have d3 : ((L.length : Int) != (c.rooms.length : Int)) = true := by simp; omega
    have d4 : (L.length != c.rooms.length) = true := by simpa using q2
    rw [q] at HCK
    clear q e q1 q2 hM ok
    go_enter Try.func68, Try.ntmps68
    go_wp2_with fail
    refine HCK.out.mono ?_
    rintro e w1 ⟨rfl, hb1⟩
    obtain ⟨x0, x1, x2, x3⟩ := four_of (blk_on HX.out hb1)
    obtain ⟨y0, y1⟩ := truth_at' (blk_on HY.out hb1)
    have H1 := Lib.hid hb1
    clear hb1
    go_wp2_with fail
    go_ret2
    exact fp_err (by decide) (HB.out.trans (H1.out.mono HB.out.size))
  all_goals
    rw [e]
    have ok := okCol_of q
    have o1 := ok.houses.1; have o2 := ok.houses.2; have o3 := ok.nights
    obtain ⟨M, hM⟩ : ∃ M : Nat, c.rooms.length * c.nights.length = M := ⟨_, rfl⟩
    have hmul : (c.rooms.length : Int) * (c.nights.length : Int) = (M : Int) := by rw [← hM]; simp
    have hM36 : M ≤ 36 := by rw [← hM]; exact Nat.mul_le_mul o2 o3
    have hKM : (needsC c).length = M := by rw [needsC_mul, hM]
    rw [hM] at q1
    have d1 : ((T.length : Int) != (M : Int)) = false := by simp; omega
    have d2 : (T.length != M) = false := by simpa using q1
    have d3 : ((L.length : Int) != (c.rooms.length : Int)) = false := by simp; omega
    have d4 : (L.length != c.rooms.length) = false := by simpa using q2
    rw [q] at HCK
    have HQ3 := Lib.hid q3
    have HOK := Lib.hid ok
    have HTM := Lib.hid (And.intro q1 q2)
    have HKM := Lib.hid hKM
    clear q e q1 q2 q3 hM ok hKM
    go_enter Try.func68, Try.ntmps68
    go_wp2_with fail
    refine HCK.out.mono ?_
    rintro e w1 ⟨rfl, hb1⟩
    obtain ⟨x0, x1, x2, x3⟩ := four_of (blk_on HX.out hb1)
    obtain ⟨y0, y1⟩ := truth_at' (blk_on HY.out hb1)
    have H1 := Lib.hid (HB.out.trans (hb1.mono HB.out.size))
    have HX1 := Lib.hid (blk_on HX.out hb1)
    have HY1 := Lib.hid (blk_on HY.out hb1)
    have HC1 := Lib.hid (HC.out.on hb1)
    clear hb1 HCK
    go_wp2_with fail
    go_loopw [8] (fun i wr => ∃ k : Nat, k ≤ T.length ∧ i = .int .i64 k ∧ Hid (∀ j, j < k → ((nthR T j).length == c.rooms.length) = true) ∧ w1 = wr) (fun i _ => T.length - (intOf i).toNat)
    case atStart => exact ⟨0, Nat.zero_le _, rfl, fun j hj => (by omega), rfl⟩
    case round =>
      obtain ⟨k, hk, rfl, HR, rfl⟩ := hrel
      by_cases hlt : k < T.length
      · have hki : (k : Int) < T.length := by omega
        obtain ⟨b, off, u, rfl, hbl, hcell, hru⟩ := HT3.out k hlt
        obtain ⟨_, _, rfl, _, hl140, _⟩ := hru.open
        have m1 := (H1.out.cell (p := ⟨b, off + k, none⟩) hbl).trans hcell
        clear hcell hru
        by_cases hq : (nthR T k).length = c.rooms.length
        · have g1 : (((nthR T k).length : Int) != (c.rooms.length : Int)) = false := by simp; omega
          have g2 : ((nthR T k).length != c.rooms.length) = false := by simpa using hq
          have HQ := Lib.hid hq
          clear hq
          go_wp2_with fail
          go_roundw
          case rel =>
            refine ⟨k + 1, by omega, by go_num, fun j hj => ?_, by simp⟩
            by_cases ej : j = k
            · rw [ej]; simpa using HQ.out
            · exact HR.out j (by omega)
          case measure => simp [intOf]; omega
        · have g1 : (((nthR T k).length : Int) != (c.rooms.length : Int)) = true := by simp; omega
          have g2 : ((nthR T k).length != c.rooms.length) = true := by simpa using hq
          have HQ := Lib.hid (fun h => hq (by have := allB_iff.1 h k hlt; simpa using this) : ¬ allB (fun i => (nthR T i).length == c.rooms.length) T.length = true)
          clear hq
          first
            | (exact absurd HQ3.out HQ.out)
            | (go_wp2_with fail
               go_ret2
               exact fp_err (by decide) H1.out)
      · obtain rfl : k = T.length := by omega
        first
          | (exact absurd (HQ3.out.symm.trans (allB_iff.2 fun i hi => HR.out i hi)) (by decide))
          | skip
        all_goals
          have hgr := groups_any c _ _ _ _ w1 HC1.out HOK.out
          have HGR := Lib.hid hgr
          clear hgr
          go_upto_region 13 with (go_at_call 114; refine HGR.out.mono ?_; rintro e w2 ⟨v2, rfl, hg2, hb2⟩; obtain ⟨us, hus⟩ := hg2; obtain ⟨a2, q2, rfl⟩ := owns_slice hus.2.1; have HU := Lib.hid hus; have HB2 := Lib.hid hb2; clear hus hb2)
          have HC2 := Lib.hid (HC1.out.on HB2.out)
          have hx2 := blk_on HX1.out HB2.out
          have HX2 := Lib.hid hx2
          have HY2 := Lib.hid (blk_on HY1.out HB2.out)
          have H2 := Lib.hid (H1.out.trans (HB2.out.mono H1.out.size))
          have hb0 : Hid (Below w2.heap.size w2 w2.drew) := (Below.refl _ _).drew
          have HPQ : Hid (∀ W, Hid (Below w2.heap.size w2 W) → BoxB w2 w.heap.size (.slice ar c.rooms.length cr) (.slice at_ c.traps.length ct) (.slice au c.runs.length cu) (.slice an c.nights.length cn) W) := fun W h => BoxB.of HX2.out h.out
          have hP : w2.drew.cell? ⟨w.heap.size, 0, none⟩ = some (.slice ar c.rooms.length cr) ∧ w2.drew.cell? ⟨w.heap.size, 1, none⟩ = some (.slice at_ c.traps.length ct) ∧ w2.drew.cell? ⟨w.heap.size, 2, none⟩ = some (.slice au c.runs.length cu) ∧ w2.drew.cell? ⟨w.heap.size, 3, none⟩ = some (.slice an c.nights.length cn) ∧ Hid (Below w2.heap.size w2 w2.drew) := HPQ.out _ hb0
          have HPX : Hid (∀ W, Hid (Below w1.heap.size w1 W) → BoxB w1 w.heap.size (.slice ar c.rooms.length cr) (.slice at_ c.traps.length ct) (.slice au c.runs.length cu) (.slice an c.nights.length cn) W) := fun W h => BoxB.of HX1.out h.out
          have HP1 : Hid (∀ W, Hid (Below w2.heap.size w2 W) → BoxB w1 w.heap.size (.slice ar c.rooms.length cr) (.slice at_ c.traps.length ct) (.slice au c.runs.length cu) (.slice an c.nights.length cn) W) := fun W h => BoxB.of HX1.out (HB2.out.trans (h.out.mono HB2.out.size))
          have hP' : w2.drew.cell? ⟨w.heap.size, 0, none⟩ = some (.slice ar c.rooms.length cr) ∧ w2.drew.cell? ⟨w.heap.size, 1, none⟩ = some (.slice at_ c.traps.length ct) ∧ w2.drew.cell? ⟨w.heap.size, 2, none⟩ = some (.slice au c.runs.length cu) ∧ w2.drew.cell? ⟨w.heap.size, 3, none⟩ = some (.slice an c.nights.length cn) ∧ Hid (Below w1.heap.size w1 w2.drew) := HP1.out _ hb0
          have HEV : Hid (Calls Try.prog 129 #[.agg #[.slice ar c.rooms.length cr, .slice at_ c.traps.length ct, .slice au c.runs.length cu, .slice an c.nights.length cn]] w2.drew fun e w' => ∃ b, e = .returned (.slice (some ⟨b, 0, none⟩) c.rooms.length c.rooms.length) ∧ Hid (IsBools w' w'.heap.size (.slice (some ⟨b, 0, none⟩) c.rooms.length c.rooms.length) (allL c.rooms.length c.rooms.length)) ∧ Hid (Below w2.heap.size w2 w')) := (everywhere_any c _ _ _ _ w2.drew (HC2.out.on hb0.out) o2).mono fun _ w' ⟨b, h1, h2, h3, h4⟩ => by
            refine ⟨b, h1, ?_, hb0.out.trans (h4.mono hb0.out.size)⟩
            rw [allL_all]
            have h5 := h2.is (by simp; omega)
            rw [List.length_replicate] at h5
            exact h5
          have HST : Hid (∀ W b, Hid (Below w2.heap.size w2 W) → Hid (IsBools W W.heap.size (.slice (some ⟨b, 0, none⟩) c.rooms.length c.rooms.length) (allL c.rooms.length c.rooms.length)) → Calls Try.prog 101 #[.agg #[.slice ar c.rooms.length cr, .slice at_ c.traps.length ct, .slice au c.runs.length cu, .slice an c.nights.length cn], .slice (some ⟨b, 0, none⟩) c.rooms.length c.rooms.length] W fun e w' => ∃ b, e = .returned (.slice (some ⟨b, 0, none⟩) c.rooms.length c.rooms.length) ∧ Hid (BoolsAt w' b (staysL c (allL c.rooms.length c.rooms.length))) ∧ Hid (Below w2.heap.size w2 w')) := fun W b h hb => (stays_any c _ _ _ _ _ _ W (HC2.out.on h.out) HOK.out hb.out (allL_len _ _)).mono fun _ w' ⟨b, h1, h2, h3, h4⟩ => ⟨b, h1, h2, h.out.trans (h4.mono h.out.size)⟩
          have HOW : Hid (∀ W o, Hid (Below w2.heap.size w2 W) → (us.length = (groupsC c).length ∧ (W.alloc o).ownsRow w1.heap.size 158 2 (.slice a2 (groupsC c).length q2) (groupsC c).length (zipV (groupsC c) us) ∧ ∀ j, j < (groupsC c).length → (W.alloc o).ownsRow w1.heap.size 4 1 (us.getD j (.slice none 0 0)) (nthG (groupsC c) j).2.length ((nthG (groupsC c) j).2.map Value.bool)) ∧ Hid (Below w1.heap.size w1 (W.alloc o)) ∧ w1.heap.size ≤ W.heap.size) := fun W o h =>
            ⟨owns3_alloc o ⟨HU.out.1, owns_below HU.out.2.1 h.out, fun j hj => owns_below (HU.out.2.2 j hj) h.out⟩, (HB2.out.trans (h.out.mono HB2.out.size)).alloc (Nat.le_trans HB2.out.size h.out.size) _, Nat.le_trans HB2.out.size h.out.size⟩
          obtain ⟨i0, hi, hz0, hz1, hz2⟩ := info_parts infoGroup
          have hgl := (roomOk_of HOK.out).gl40
          have hg6 : ∀ j, j < (groupsC c).length → (nthG (groupsC c) j).2.length ≤ 1000 := fun j hj => by rw [from_len hj]; omega
          have HG6 := Lib.hid hg6
          clear hx2 hP hg6 x0 x1 x2 x3 y0 y1
          go_region_held3 (fun w' => w'.cell? ⟨w.heap.size, 0, none⟩ = some (.slice ar c.rooms.length cr) ∧ w'.cell? ⟨w.heap.size, 1, none⟩ = some (.slice at_ c.traps.length ct) ∧ w'.cell? ⟨w.heap.size, 2, none⟩ = some (.slice au c.runs.length cu) ∧ w'.cell? ⟨w.heap.size, 3, none⟩ = some (.slice an c.nights.length cn) ∧ Hid (Below w1.heap.size w1 w')) (first | with_reducible assumption | with_reducible exact HP1.out _ hb5 | with_reducible exact HP1.out _ hb4 | with_reducible exact HPX.out _ hb6 | with_reducible exact HPX.out _ (HOW.out _ _ hb5).2.1 | fail) (first | (go_at_call 129; (with_reducible refine HEV.out.mono ?_); rintro e w4 ⟨b4, rfl, hg4, hb4⟩) | (go_at_call 101; (with_reducible refine (HST.out _ _ hb4 hg4).mono ?_); rintro e w5 ⟨b5, rfl, hg5, hb5⟩) | ((obtain ⟨hOW, hBW, hSW⟩ := HOW.out w5 (.cells #[.int .i64 0, .slice (some ⟨b5, 0, none⟩) c.rooms.length c.rooms.length] 158) hb5); (refine step_append_lies _ (by rfl) _ _ _ (by rfl) w1.heap.size 158 i0 (.agg #[.int .i64 0, .slice none 0 0]) 2 32 Try.underlying155 hi hz0 hz1 hz2 rfl (by decide) (.slice a2 (groupsC c).length q2) (groupsC c).length (zipV (groupsC c) us) (by rfl) hOW.2.1 ⟨w5.heap.size, 0, none⟩ 1 1 [.int .i64 0, .slice (some ⟨b5, 0, none⟩) c.rooms.length c.rooms.length] (by rfl) rfl (World.news_of_block (heap_alloc_new _ _)) (fun y hy => by simp at hy; rcases hy with rfl | rfl <;> rfl) (by decide) (by unfold maxLen; omega) (by omega) (by simp; omega) (w5.heap.size + 1) (by simp) ?_); intro g6 cap6 w6 hown6 hgrow6 _ _; have hgs : Hid (IsGroups w6 w6.heap.size (.slice (some ⟨g6, 0, none⟩) ((groupsC c).length + 1) cap6) (groupsL c)) := grown_read2 (by simp; omega) (by omega) HG6.out hOW.1 hOW.2.1 hOW.2.2 (keep _ hg5.out) (staysL_len _ _) (by omega) hown6 hgrow6; have hb6 : Hid (Below w1.heap.size w1 w6) := below_grown hBW.out hgrow6 (fun r hr => (hOW.2.1.lt r hr).1) (by simp; omega); clear hown6 hgrow6 hOW hBW hSW) | fail)
          have HGS := Lib.hid (And.intro hgs.out hb6.out)
          have HX6 := Lib.hid (blk_on HX1.out hb6.out)
          clear hP' hb0 HPQ HP1 HPX HEV HST HOW hg4 hb4 hg5 hb5 hgs hb6 hi hz0 hz1 hz2 HU HG6
          go_upto_region 14 with (fail)
          have HB26 := Lib.hid HGS.out.2
          have hw6 : Below w.heap.size w w6 := H1.out.trans (HGS.out.2.mono H1.out.size)
          have hy6 := blk_on HY1.out HGS.out.2
          have HW6 := Lib.hid (And.intro hw6 hy6)
          have hqT : T.length ≤ qT := HQT.out
          have hT6 := HT.out.on hw6
          obtain ⟨fT, hfT, hcT⟩ := rows_cells hT6
          have HRS : Hid (RowsSrc w6 aT T fT) := ⟨hcT, fun j hj => by obtain ⟨a', q', e, _⟩ := (hfT j hj).open; exact ⟨a', _, q', e⟩, hT100⟩
          have HFT := Lib.hid hfT
          have HPQ : Hid (∀ W, Hid (Below w6.heap.size w6 W) → W.cell? ⟨w.heap.size + 1, 0, none⟩ = some (.slice aT T.length qT) ∧ W.cell? ⟨w.heap.size + 1, 1, none⟩ = some (.slice aL L.length qL) ∧ Hid (Below w6.heap.size w6 W)) := fun W h => ⟨(truth_at' (blk_on HW6.out.2 h.out)).1, (truth_at' (blk_on HW6.out.2 h.out)).2, h⟩
          have hP : w6.drew.cell? ⟨w.heap.size + 1, 0, none⟩ = some (.slice aT T.length qT) ∧ w6.drew.cell? ⟨w.heap.size + 1, 1, none⟩ = some (.slice aL L.length qL) ∧ Hid (Below w6.heap.size w6 w6.drew) := HPQ.out _ (Below.refl _ _).drew
          have HAL : Hid (∀ W o, Hid (Below w6.heap.size w6 W) → Hid (Below w6.heap.size w6 (W.alloc o))) := fun W o h => h.out.alloc h.out.size _
          clear hw6 hy6 hT6 hfT hcT
          go_cut [10] (fun s10 wx => MidF w6 wx s10 (allR T L))
          case first =>
            go_region_held3 (fun w' => w'.cell? ⟨w.heap.size + 1, 0, none⟩ = some (.slice aT T.length qT) ∧ w'.cell? ⟨w.heap.size + 1, 1, none⟩ = some (.slice aL L.length qL) ∧ Hid (Below w6.heap.size w6 w')) (first | with_reducible assumption | with_reducible exact HPQ.out _ hb9 | with_reducible exact HPQ.out _ hb8 | with_reducible exact HPQ.out _ (HAL.out _ _ hb8) | exact HPQ.out _ (HAL.out _ _ (Below.refl _ _).drew) | exact HPQ.out _ (HAL.out _ _ (HAL.out _ _ (Below.refl _ _).drew)) | fail) (first | ((refine stepA1 (by rfl) _ _ (by rfl) w6.heap.size (by rfl) (by rfl) hqT (heap_alloc_new _ _) (by exact (by assumption : _ ∧ _ ∧ Hid _).2.2) (by omega) HRS ?_); intro g8 q8 w8 hown8 hgr8 hb8) | ((refine stepA1 (by rfl) _ _ (by rfl) w6.heap.size (by rfl) (by rfl) hqT (keep _ (heap_alloc_new _ _)) (by exact (by assumption : _ ∧ _ ∧ Hid _).2.2) (by omega) HRS ?_); intro g8 q8 w8 hown8 hgr8 hb8) | ((refine stepA1 (by rfl) _ _ (by rfl) (w6.heap.size + 1) (by rfl) (by rfl) hqT (blk _ _ _ _ (by simp)) (by exact (by assumption : _ ∧ _ ∧ Hid _).2.2) (by omega) HRS ?_); intro g8 q8 w8 hown8 hgr8 hb8) | ((refine stepA2 (by rfl) _ _ (by rfl) g8 w8.heap.size (by rfl) (by rfl) hT100 (hown8.out.alloc _) (heap_alloc_new _ _) (by exact (by assumption : _ ∧ _ ∧ Hid _).2.2) ?_); intro g9 q9 w9 hown9 hb9) | ((refine stepA2 (by rfl) _ _ (by rfl) g8 (w6.heap.size + 1) (by rfl) (by rfl) hT100 (hown8) ((hgr8.out.block _ (by simp) (by simp)).trans (blk _ _ _ _ (by simp))) (by exact (by assumption : _ ∧ _ ∧ Hid _).2.2) ?_); intro g9 q9 w9 hown9 hb9) | ((refine stepA2 (by rfl) _ _ (by rfl) g8 w6.heap.size (by rfl) (by rfl) hT100 (hown8) ((hgr8.out.block _ (by simp; omega) (by simp)).trans (keep _ (heap_alloc_new _ _))) (by exact (by assumption : _ ∧ _ ∧ Hid _).2.2) ?_); intro g9 q9 w9 hown9 hb9) | fail)
            all_goals
              have HMF : Hid (MidF w6 w9 (.slice (some ⟨g9, 0, none⟩) (T.length + 1) q9) (allR T L)) := by
                refine ⟨some ⟨g9, 0, none⟩, q9, by rw [allR_len], ?_, hb9.out⟩
                refine rows_read (by rw [allR_len]; exact hown9.out) (fun j hj => ?_) (by rw [allR_len]; omega)
                rw [allR_len] at hj
                by_cases hjT : j < T.length
                · have e : (valsT fT T.length ++ [Value.slice aL L.length qL]).getD j (.slice none 0 0) = fT j := by
                    rw [List.getD_eq_getElem?_getD, List.getElem?_append_left (by rw [valsT_len]; exact hjT)]
                    simp [valsT, hjT]
                  rw [allR_row hjT, e]
                  exact (HFT.out j hjT).on hb9.out
                · obtain rfl : j = T.length := by omega
                  have e : (valsT fT T.length ++ [Value.slice aL L.length qL]).getD T.length (.slice none 0 0) = .slice aL L.length qL := by
                    rw [List.getD_eq_getElem?_getD, List.getElem?_append_right (by rw [valsT_len]; exact Nat.le_refl _)]
                    simp [valsT_len]
                  rw [allR_last, e]
                  exact (HL.out.on HW6.out.1).on hb9.out
              clear hb9 hown9 hgr8 hb8 hown8 hP HPQ HAL HRS HFT
              go_wp2_with fail
              go_meet
              exact HMF.out
          case rest =>
            obtain ⟨a10, q10, rfl, hA, hb10⟩ := hcut
            have hgM : (groupsC c).length = M := by have := (like_all HOK.out).1; have := HKM.out; omega
            have hgs := HGS.out.1.on hb10
            obtain ⟨ag, qg, eg, _, _, g3⟩ := hgs.open
            obtain ⟨rfl, rfl⟩ : ag = some ⟨g6, 0, none⟩ ∧ qg = cap6 := by injection eg with e1 e2 e3; exact ⟨e1.symm, e3.symm⟩
            obtain ⟨aA, qA, eA, _, _, A3⟩ := hA.open
            cases eA
            have hrl : ∀ k, k < M + 1 → (nthR (allR T L) k).length = c.rooms.length := fun k hk => by
              by_cases e : k < M
              · rw [allR_row (by rw [HTM.out.1]; exact e)]
                have := allB_iff.1 HQ3.out k (by rw [HTM.out.1]; exact e); simpa using this
              · obtain rfl : k = M := by omega
                have : nthR (allR T L) k = L := by have := allR_last T L; rw [HTM.out.1] at this; exact this
                rw [this]; exact HTM.out.2
            rw [allR_len, HTM.out.1] at A3
            rw [allR_len]
            have hAI : ∀ k, k < M + 1 → ∀ x ∈ nthR (allR T L) k, I64 x := fun k hk => by
              obtain ⟨_, _, _, _, _, _, hI⟩ := A3 k hk
              exact hI.2
            have hcfin : Below w.heap.size w wc := HW6.out.1.trans (hb10.mono HW6.out.1.size)
            have hyc := blk_on HW6.out.2 hb10
            have hxc := blk_on HX6.out hb10
            obtain ⟨y0, y1⟩ := truth_at' hyc
            obtain ⟨x0, x1, x2, x3⟩ := four_of hxc
            have hroom := HRI.out.on hcfin
            obtain ⟨ar', cr', er, _, _, hr3⟩ := hroom.open
            cases er
            have G3 := Lib.hid g3; have AA3 := Lib.hid A3; have HRL := Lib.hid hrl; have HAI := Lib.hid hAI; have HFIN := Lib.hid hcfin; have HR3 := Lib.hid hr3
            have HREF : Hid (FitsP c T L ↔ RefP c (allR T L)) := fits_ref HOK.out (by rw [HTM.out.1, HKM.out])
            rw [hgM, HTM.out.1]
            rw [HTM.out.1] at y0
            clear hA hb10 hgM hgs eg g3 A3 hrl hAI hcfin hyc hxc hroom hr3
            go_wp2_with fail
            go_loopw [11] (fun i wr => ∃ k : Nat, k ≤ M + 1 ∧ i = .int .i64 k ∧ Hid ((∀ i, i < k → ∀ j, j < c.rooms.length → cellR c (allR T L) i j) ∧ ∀ i, i < k → i < M → sumN (nth (nthR (allR T L) i)) c.rooms.length = (nthP (needsC c) i).1) ∧ wc = wr) (fun i _ => M + 1 - (intOf i).toNat)
            case atStart => exact ⟨0, Nat.zero_le _, rfl, ⟨fun i hi => (by omega), fun i hi => (by omega)⟩, rfl⟩
            case round =>
              obtain ⟨k, hk, rfl, HQ, rfl⟩ := hrel
              by_cases hlt : k < M + 1
              · have hki : (k : Int) < (M : Int) + 1 := by omega
                obtain ⟨bA, oA, uA, rfl, _, m1, hrow⟩ := AA3.out k hlt
                have hln := HRL.out k hlt
                obtain ⟨aR, qR, rfl, _, _, r3⟩ := hrow.open
                rw [hln] at m1 r3
                have hkl : k < (groupsL c).length := by rw [groupsL_len HOK.out, HKM.out]; exact hlt
                obtain ⟨bG, oG, uG, e7, _, m2, m3, hbs⟩ := G3.out k hkl
                cases e7
                obtain ⟨aB, qB, rfl, _, _, b3⟩ := hbs.open
                rw [groupsL_from hkl] at m3 b3
                rw [Nat.zero_add] at m2 m3
                obtain ⟨xs, hxs⟩ : ∃ xs, nthR (allR T L) k = xs := ⟨_, rfl⟩
                obtain ⟨bs, hbs'⟩ : ∃ bs, (nthG (groupsL c) k).2 = bs := ⟨_, rfl⟩
                obtain ⟨rk, hrk⟩ : ∃ rk, (nthG (groupsL c) k).1 = rk := ⟨_, rfl⟩
                have hI := HAI.out k hlt
                have hbit : ∀ j, j < c.rooms.length → nthB bs j = srcBit c k j := fun j hj => by rw [← hbs']; exact groupsL_bit HOK.out (by rw [HKM.out]; exact hlt) hj
                have hcr : ∀ j, cellR c (allR T L) k j ↔ (0 ≤ nth xs j ∧ nth xs j ≤ 60 ∧ (0 < nth xs j → srcBit c k j = true)) := fun j => by unfold cellR; rw [hxs]
                rw [hxs] at r3 hI hln
                rw [hbs'] at b3
                rw [hrk] at m2
                have R3 := Lib.hid r3; have B3 := Lib.hid b3; have HBIT := Lib.hid hbit; have HCR := Lib.hid hcr; have HII := Lib.hid hI; have HXS := Lib.hid (And.intro hxs (And.intro hrk hln))
                clear hrow hln r3 hbs b3 hxs hbs' hrk hI hbit hcr hkl
                go_wp2_with fail
                go_loopw [12, 13] (fun v i wr => ∃ j : Nat, j ≤ c.rooms.length ∧ i = .int .i64 j ∧ v = .int .i64 (sumN (nth xs) j) ∧ Hid (∀ h, h < j → cellR c (allR T L) k h) ∧ wc = wr) (fun _ i _ => c.rooms.length - (intOf i).toNat)
                case atStart => exact ⟨0, Nat.zero_le _, rfl, rfl, fun h hh => (by omega), rfl⟩
                case round =>
                  obtain ⟨j, hj, rfl, rfl, HJ, rfl⟩ := hrel
                  have hsb := sumN_step (f := nth xs) (b := 60) (n := j) (fun h hh => by have := (HCR.out h).1 (HJ.out h hh); exact ⟨this.1, this.2.1⟩) j (Nat.le_refl _)
                  by_cases hjl : j < c.rooms.length
                  · have hji : (j : Int) < c.rooms.length := by omega
                    obtain ⟨bR, oR, rfl, _, m4⟩ := R3.out j hjl
                    obtain ⟨bB, oB, rfl, _, m5⟩ := B3.out j hjl
                    rw [HBIT.out j hjl] at m5
                    have hi64 := HII.out _ (nth_mem (i := j) (by rw [HXS.out.2.2]; exact hjl))
                    have hl1 := hi64.1; have hl2 := hi64.2
                    have hno : ¬ cellR c (allR T L) k j → ¬ FitsP c T L := fun h f => h ((HREF.out.1 f).cell k (by rw [HKM.out]; exact hlt) j hjl)
                    have HNO := Lib.hid hno
                    obtain ⟨x, hx⟩ : ∃ x, nth xs j = x := ⟨_, rfl⟩
                    have hss : sumN (nth xs) (j + 1) = sumN (nth xs) j + x := by rw [sumN_succ, hx]
                    have hcx : cellR c (allR T L) k j ↔ (0 ≤ x ∧ x ≤ 60 ∧ (0 < x → srcBit c k j = true)) := by rw [← hx]; exact HCR.out j
                    have HCX := Lib.hid hcx
                    have HSS := Lib.hid hss
                    rw [hx] at m4 hl1 hl2
                    clear hi64 hno hx hss hcx
                    by_cases t1 : x < 0
                    · have HN := Lib.hid (HNO.out (fun h => by have := (HCX.out.1 h).1; omega))
                      go_wp2_with fail
                      go_ret2
                      exact fp_no HN.out HFIN.out
                    by_cases t2 : 60 < x
                    · have HN := Lib.hid (HNO.out (fun h => by have := (HCX.out.1 h).2.1; omega))
                      go_wp2_with fail
                      go_ret2
                      exact fp_no HN.out HFIN.out
                    by_cases t3 : 0 < x
                    · cases hb : srcBit c k j
                      · rw [hb] at m5
                        have HN := Lib.hid (HNO.out (fun h => by have := (HCX.out.1 h).2.2 t3; rw [hb] at this; cases this))
                        clear hb
                        go_wp2_with fail
                        go_ret2
                        exact fp_no HN.out HFIN.out
                      · rw [hb] at m5
                        have HY := Lib.hid (HCX.out.2 ⟨by omega, by omega, fun _ => hb⟩)
                        clear hb
                        go_wp2_with fail
                        go_roundw
                        case rel =>
                          refine ⟨j + 1, by omega, by go_num, by rw [HSS.out], fun h hh => ?_, by simp⟩
                          by_cases e : h = j
                          · rw [e]; exact HY.out
                          · exact HJ.out h (by omega)
                        case measure => simp [intOf]; omega
                    · have HY := Lib.hid (HCX.out.2 ⟨by omega, by omega, fun h => absurd h t3⟩)
                      go_wp2_with fail
                      go_roundw
                      case rel =>
                        refine ⟨j + 1, by omega, by go_num, by rw [HSS.out], fun h hh => ?_, by simp⟩
                        by_cases e : h = j
                        · rw [e]; exact HY.out
                        · exact HJ.out h (by omega)
                      case measure => simp [intOf]; omega
                  · obtain rfl : j = c.rooms.length := by omega
                    by_cases hkM : k < M
                    · have hkMi : (k : Int) < (M : Int) := by omega
                      have hrat : rk = (nthP (needsC c) k).1 := by rw [← HXS.out.2.1]; exact groupsL_rats HOK.out (by rw [HKM.out]; exact hkM)
                      have HRAT := Lib.hid hrat
                      obtain ⟨S, hS⟩ : ∃ S, sumN (nth xs) c.rooms.length = S := ⟨_, rfl⟩
                      have HS := Lib.hid hS
                      rw [hS] at hsb ⊢
                      clear hrat hS
                      by_cases hSR : S = rk
                      · have g1 : (S != rk) = false := by simpa using hSR
                        have HSR := Lib.hid hSR
                        clear hSR
                        go_wp2_with fail
                        go_roundw
                        case rel =>
                          refine ⟨k + 1, by omega, by go_num, ⟨fun i hi j hj => ?_, fun i hi hM => ?_⟩, by simp⟩
                          · by_cases e : i = k
                            · rw [e]; exact HJ.out j hj
                            · exact HQ.out.1 i (by omega) j hj
                          · by_cases e : i = k
                            · rw [e, HXS.out.1, HS.out, HSR.out, HRAT.out]
                            · exact HQ.out.2 i (by omega) hM
                        case measure => simp [intOf]; omega
                      · have g1 : (S != rk) = true := by simpa using hSR
                        have HN : Hid (¬ FitsP c T L) := fun f => hSR (by
                          have := (HREF.out.1 f).row k (by rw [HKM.out]; exact hkM)
                          rw [HXS.out.1, HS.out] at this
                          rw [this, HRAT.out])
                        clear hSR
                        go_wp2_with fail
                        go_ret2
                        exact fp_no HN.out HFIN.out
                    · have hkMi : ¬ (k : Int) < (M : Int) := by omega
                      go_wp2_with fail
                      go_roundw
                      case rel =>
                        refine ⟨k + 1, by omega, by go_num, ⟨fun i hi j hj => ?_, fun i hi hM => HQ.out.2 i (by omega) hM⟩, by simp⟩
                        by_cases e : i = k
                        · rw [e]; exact HJ.out j hj
                        · exact HQ.out.1 i (by omega) j hj
                      case measure => simp [intOf]; omega
              · obtain rfl : k = M + 1 := by omega
                go_wp2_with fail
                go_loopw [14] (fun i wr => ∃ h : Nat, h ≤ c.rooms.length ∧ i = .int .i64 h ∧ Hid (∀ j, j < h → sumN (fun i => nth (nthR (allR T L) i) j) (M + 1) ≤ nth c.rooms j) ∧ wc = wr) (fun i _ => c.rooms.length - (intOf i).toNat)
                case atStart => exact ⟨0, Nat.zero_le _, rfl, fun j hj => (by omega), rfl⟩
                case round =>
                  obtain ⟨h, hh, rfl, HH, rfl⟩ := hrel
                  by_cases hhl : h < c.rooms.length
                  · have hhi : (h : Int) < c.rooms.length := by omega
                    go_wp2_with fail
                    go_loopw [15, 16] (fun v i wr => ∃ j : Nat, j ≤ M + 1 ∧ i = .int .i64 j ∧ v = .int .i64 (sumN (fun i => nth (nthR (allR T L) i) h) j) ∧ wc = wr) (fun _ i _ => M + 1 - (intOf i).toNat)
                    case atStart => exact ⟨0, Nat.zero_le _, rfl, rfl, rfl⟩
                    case round =>
                      obtain ⟨j, hj, rfl, rfl, rfl⟩ := hrel
                      have hsb := sumN_step (f := fun i => nth (nthR (allR T L) i) h) (b := 60) (n := M + 1) (fun i hi => by have := HQ.out.1 i hi h hhl; exact ⟨this.1, this.2.1⟩) j hj
                      by_cases hjl : j < M + 1
                      · have hji : (j : Int) < (M : Int) + 1 := by omega
                        obtain ⟨bA, oA, uA, rfl, _, m1, hrow⟩ := AA3.out j hjl
                        have hln := HRL.out j hjl
                        obtain ⟨aR, qR, rfl, _, _, r3⟩ := hrow.open
                        rw [hln] at m1 r3
                        obtain ⟨bR, oR, rfl, _, m4⟩ := r3 h hhl
                        have hcl := HQ.out.1 j hjl h hhl
                        have hc1 := hcl.1; have hc2 := hcl.2.1
                        obtain ⟨S, hS⟩ : ∃ S, sumN (fun i => nth (nthR (allR T L) i) h) j = S := ⟨_, rfl⟩
                        obtain ⟨x, hx⟩ : ∃ x, nth (nthR (allR T L) j) h = x := ⟨_, rfl⟩
                        have hss : sumN (fun i => nth (nthR (allR T L) i) h) (j + 1) = S + x := by rw [sumN_succ, hS, hx]
                        have HSS := Lib.hid hss
                        rw [hS] at hsb ⊢
                        rw [hx] at m4 hc1 hc2
                        clear hrow hln r3 hcl hS hx hss
                        go_wp2_with fail
                        go_roundw
                        case rel => exact ⟨j + 1, by omega, by go_num, by rw [HSS.out], by simp⟩
                        case measure => simp [intOf]; omega
                      · obtain rfl : j = M + 1 := by omega
                        obtain ⟨bRo, oRo, rfl, _, m6⟩ := HR3.out h hhl
                        have hro := HOK.out.rooms6 h (by omega)
                        obtain ⟨S, hS⟩ : ∃ S, sumN (fun i => nth (nthR (allR T L) i) h) (M + 1) = S := ⟨_, rfl⟩
                        have HS := Lib.hid hS
                        rw [hS] at hsb ⊢
                        clear hS
                        by_cases hgt : nth c.rooms h < S
                        · have HN : Hid (¬ FitsP c T L) := fun f => by
                            have := (HREF.out.1 f).col h hhl
                            rw [HKM.out, HS.out] at this
                            omega
                          go_wp2_with fail
                          go_ret2
                          exact fp_no HN.out HFIN.out
                        · have HY := Lib.hid hgt
                          go_wp2_with fail
                          go_roundw
                          case rel =>
                            refine ⟨h + 1, by omega, by go_num, fun j hj => ?_, by simp⟩
                            by_cases e : j = h
                            · rw [e, HS.out]; have := HY.out; omega
                            · exact HH.out j (by omega)
                          case measure => simp [intOf]; omega
                  · obtain rfl : h = c.rooms.length := by omega
                    have HY : Hid (FitsP c T L) := HREF.out.2 ⟨fun i hi j hj => HQ.out.1 i (by rw [HKM.out] at hi; exact hi) j hj, fun i hi => HQ.out.2 i (by rw [HKM.out] at hi; omega) (by rw [HKM.out] at hi; exact hi), fun j hj => by rw [HKM.out]; exact HH.out j hj⟩
                    go_wp2_with fail
                    go_ret2
                    exact fp_yes HY.out HFIN.out
end Go.Proofs.Ytnhifinfjfpoiaa
