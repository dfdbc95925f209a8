/- The plain link: the reference's groups and sets against the program's needs and masks. Contract of the reference's Fitting. The reference's Fitting tells what the program's fitting tells. How many more: the reference's 1000 against the program's 361. Who may still be there: the reference's stays against the program's left sets. Contract of the reference's left. What the reference's left tells, and where rats can be in the next night: the near houses as a list and as a set. Contracts of the reference's Rats. Contract of the reference's After. Contract of the reference's Need. Contract of the reference's Grow. -/
import Derived.Test.YtnhifinfjfpoiaaJ14
import Derived.Test.YtnhifinfjfpoiaaJ09
import Derived.Test.YtnhifinfjfpoiaaJ11
import Derived.Test.YtnhifinfjfpoiaaJ13
import Derived.Test.YtnhifinfjfpoiaaJ07
import Derived.Deep.AppendLies
namespace Go.Proofs.Ytnhifinfjfpoiaa
open Go.RowKit
set_option linter.unusedVariables false

def LikeG (gl : List (Int × List Bool)) (nl : List (Int × Int)) : Prop :=
  gl.length = nl.length ∧ ∀ i, i < gl.length → (nthG gl i).1 = rats nl i ∧ ∀ s : Nat, withinB (nthG gl i).2 s = subB (frm nl i) s.testBit
theorem nthG_left {gl : List (Int × List Bool)} {x : Int × List Bool} {i : Nat} (h : i < gl.length) : nthG (gl ++ [x]) i = nthG gl i := by
  unfold nthG; rw [List.getD_eq_getElem?_getD, List.getD_eq_getElem?_getD, List.getElem?_append_left h]
theorem nthG_last (gl : List (Int × List Bool)) (x : Int × List Bool) : nthG (gl ++ [x]) gl.length = x := by unfold nthG; simp
theorem nthP_left {nl : List (Int × Int)} {x : Int × Int} {i : Nat} (h : i < nl.length) : nthP (nl ++ [x]) i = nthP nl i := by
  unfold nthP; rw [List.getD_eq_getElem?_getD, List.getD_eq_getElem?_getD, List.getElem?_append_left h]
theorem nthP_last (nl : List (Int × Int)) (x : Int × Int) : nthP (nl ++ [x]) nl.length = x := by unfold nthP; simp
theorem LikeG.nil : LikeG [] [] := ⟨rfl, fun i h => absurd h (Nat.not_lt_zero _)⟩
theorem LikeG.snoc {gl : List (Int × List Bool)} {nl : List (Int × Int)} (h : LikeG gl nl) {x : Int × List Bool} {y : Int × Int} (h1 : x.1 = y.1) (h2 : ∀ s : Nat, withinB x.2 s = subB y.2.toNat s.testBit) : LikeG (gl ++ [x]) (nl ++ [y]) := by
  refine ⟨by simp [h.1], fun i hi => ?_⟩
  by_cases q : i < gl.length
  · unfold rats frm
    rw [nthG_left q, nthP_left (by have := h.1; omega)]
    exact h.2 i q
  · obtain rfl : i = gl.length := by simp at hi; omega
    unfold rats frm
    rw [nthG_last, h.1, nthP_last]
    exact ⟨h1, h2⟩
theorem nthB_from {c : Col} {n h f : Nat} (hf : f < c.rooms.length) : nthB (fromL c n h) f = comeB c f n h := by
  rw [nthB_eq (by rw [fromL_len]; exact hf)]; simp [fromL]
theorem within_from {c : Col} (ok : OkCol c) {n h : Nat} (hn : n ≤ c.nights.length) (hh : h < c.rooms.length) (s : Nat) : withinB (fromL c n h) s = subB (org c n h) s.testBit := by
  rw [Bool.eq_iff_iff, subB_iff]
  unfold withinB SubS
  rw [allB_iff, fromL_len]
  constructor
  · intro H f _ hb
    have hf := org_only ok n h f hb
    have := H f hf
    rw [nthB_from hf, ← org_come ok n h f hh hf hn, hb] at this
    simpa using this
  · intro H f hf
    rw [nthB_from hf, ← org_come ok n h f hh hf hn]
    cases hb : (org c n h).testBit f
    · rfl
    · have := H f (by have := ok.houses.2; omega) hb
      simp [this]
theorem like_row {c : Col} (ok : OkCol c) {gl : List (Int × List Bool)} {nl : List (Int × Int)} (h : LikeG gl nl) {n : Nat} (hn : n ≤ c.nights.length) : ∀ j, j ≤ c.rooms.length → LikeG (gl ++ groupRow c n j) (nl ++ rowTo c n j)
  | 0, _ => by simpa [groupRow, rowTo] using h
  | j + 1, hj => by
    rw [groupRow_succ, rowTo_succ, ← List.append_assoc, ← List.append_assoc]
    refine (like_row ok h hn j (by omega)).snoc rfl fun s => ?_
    exact within_from ok hn (by omega) s
theorem like_up {c : Col} (ok : OkCol c) : ∀ n, n ≤ c.nights.length → LikeG (groupsUp c n) (needsUp c n)
  | 0, _ => LikeG.nil
  | n + 1, hn => by
    rw [groupsUp_succ, needsUp_succ]
    exact like_row ok (like_up ok n (by omega)) (by omega) _ (Nat.le_refl _)
theorem like_all {c : Col} (ok : OkCol c) : LikeG (groupsC c) (needsC c) := like_up ok _ (Nat.le_refl _)

theorem LikeG.rest {gl : List (Int × List Bool)} {nl : List (Int × Int)} (h : LikeG gl nl) (s : Nat) : restUp gl s gl.length = elsewhere nl s.testBit := by
  unfold restUp elsewhere
  rw [← h.1]
  exact sumN_congr fun i hi => by rw [(h.2 i hi).1, (h.2 i hi).2 s]
theorem nth_over {xs : List Int} {h : Nat} (q : ¬ h < xs.length) : nth xs h = 0 := by unfold nth; rw [List.getD_eq_getElem?_getD, List.getElem?_eq_none (by omega)]; rfl
theorem rooms_six (rl : List Int) (s : Nat) : ∀ k, rl.length + k ≤ 6 → sumN (fun h => if s.testBit h = true then nth rl h else 0) (rl.length + k) = roomsUp rl s rl.length
  | 0, _ => rfl
  | k + 1, hk => by
    rw [← Nat.add_assoc, sumN_succ, rooms_six rl s k (by omega), nth_over (by omega)]
    simp
theorem roomsUp_of (rl : List Int) (s : Nat) (h : rl.length ≤ 6) : roomsUp rl s rl.length = roomsOf (nth rl) s.testBit := by
  have := rooms_six rl s (6 - rl.length) (by omega)
  rw [show rl.length + (6 - rl.length) = 6 by omega] at this
  exact this.symm
theorem LikeG.cap {gl : List (Int × List Bool)} {nl : List (Int × Int)} (h : LikeG gl nl) {rl : List Int} (h6 : rl.length ≤ 6) (s : Nat) : capG rl gl s = capM nl (nth rl) s := by
  unfold capG capM
  rw [h.rest, roomsUp_of rl s h6]
/-- Masks beyond the houses change nothing. -/
theorem cap_mod {nl : List (Int × Int)} {rl : List Int} {n : Nat} (hn : rl.length = n) (hf : ∀ o, o < nl.length → ∀ h, (frm nl o).testBit h = true → h < n) (m : Nat) : capM nl (nth rl) (m % 2 ^ n) = capM nl (nth rl) m := by
  unfold capM roomsOf elsewhere
  congr 1
  · refine sumN_congr fun h _ => ?_
    rw [Nat.testBit_mod_two_pow]
    by_cases q : h < n
    · simp [q]
    · rw [nth_over (xs := rl) (by omega)]; simp
  · refine sumN_congr fun o ho => ?_
    have e : subB (frm nl o) (m % 2 ^ n).testBit = subB (frm nl o) m.testBit := by
      rw [Bool.eq_iff_iff, subB_iff, subB_iff]
      constructor
      · intro H h hh hb
        have := H h hh hb
        rw [Nat.testBit_mod_two_pow] at this
        simp at this; exact this.2
      · intro H h hh hb
        rw [Nat.testBit_mod_two_pow, H h hh hb]
        simp [hf o ho h hb]
    rw [e]
theorem minG_le (rl : List Int) (gl : List (Int × List Bool)) : ∀ K s, s < K → minG rl gl K ≤ capG rl gl s
  | 0, s, h => by omega
  | K + 1, s, h => by
    unfold minG
    by_cases q : s < K
    · have := minG_le rl gl K s q
      split <;> omega
    · obtain rfl : s = K := by omega
      split <;> omega
theorem minG_mem (rl : List Int) (gl : List (Int × List Bool)) : ∀ K, minG rl gl K = 1000000 ∨ ∃ s, s < K ∧ minG rl gl K = capG rl gl s
  | 0 => .inl rfl
  | K + 1 => by
    unfold minG
    split
    · exact .inr ⟨K, by omega, rfl⟩
    · rcases minG_mem rl gl K with h | ⟨s, h1, h2⟩
      · exact .inl h
      · exact .inr ⟨s, by omega, h2⟩
theorem min_cut {gl : List (Int × List Bool)} {nl : List (Int × Int)} (h : LikeG gl nl) {rl : List Int} (ok : RoomOk rl gl) (hf : ∀ o, o < nl.length → ∀ h, (frm nl o).testBit h = true → h < rl.length) : minG rl gl (pow2 rl.length) = cutC nl (nth rl) := by
  have h6 := ok.rl6
  apply Int.le_antisymm
  · obtain ⟨m, hm, e⟩ := cut_mem nl (nth rl)
    have e2 : cutC nl (nth rl) = capM nl (nth rl) m := e
    rw [e2, ← cap_mod rfl hf m, ← h.cap h6]
    exact minG_le _ _ _ _ (Nat.mod_lt _ (Nat.two_pow_pos _))
  · rcases minG_mem rl gl (pow2 rl.length) with e | ⟨s, hs, e⟩
    · have h1 := minTo_le nl (nth rl) 63 0 (by omega)
      rw [← h.cap h6] at h1
      have h2 := (ok.roomsB 0 (Nat.le_refl _)).2
      have h3 := (ok.restB 0 (Nat.le_refl _)).2
      have h4 := ok.gl40
      unfold capG at h1
      rw [e]
      show minTo nl (nth rl) 63 ≤ 1000000
      omega
    · have := pow2_le h6
      rw [e, h.cap h6]
      exact minTo_le nl (nth rl) 63 s (by omega)
theorem needs_mem {c : Col} {x : Int × Int} (h : x ∈ needsC c) : ∃ n j, n < c.nights.length ∧ j < c.rooms.length ∧ x = (nth (nthR c.nights n) j, (org c n j : Int)) := by
  simp only [needsC, needsUp, needRow, List.mem_flatMap, List.mem_map, List.mem_range] at h
  obtain ⟨n, hn, j, hj, rfl⟩ := h
  exact ⟨n, j, hn, hj, rfl⟩
theorem nthP_in {nl : List (Int × Int)} {i : Nat} (h : i < nl.length) : nthP nl i ∈ nl := by
  unfold nthP; rw [List.getD_eq_getElem?_getD, List.getElem?_eq_getElem h]; exact List.getElem_mem h
theorem needs_in {c : Col} (ok : OkCol c) : ∀ o, o < (needsC c).length → ∀ h, (frm (needsC c) o).testBit h = true → h < c.rooms.length := by
  intro o ho h hb
  obtain ⟨n, j, hn, hj, e⟩ := needs_mem (nthP_in ho)
  unfold frm at hb
  rw [e] at hb
  exact org_only ok n j h hb
theorem min_needs {c : Col} (ok : OkCol c) : minG c.rooms (groupsC c) (pow2 c.rooms.length) = cutC (needsC c) (nth c.rooms) :=
  min_cut (like_all ok) (roomOk_of ok) (needs_in ok)
theorem tot_snoc (nl : List (Int × Int)) (x : Int × Int) : sumN (rats (nl ++ [x])) (nl ++ [x]).length = sumN (rats nl) nl.length + x.1 := by
  rw [List.length_append, List.length_singleton, sumN_succ]
  unfold rats
  rw [nthP_last]
  congr 1
  exact sumN_congr fun i hi => by rw [nthP_left hi]
theorem tot_row (c : Col) (nl : List (Int × Int)) (n : Nat) : ∀ j, sumN (rats (nl ++ rowTo c n j)) (nl ++ rowTo c n j).length = sumN (rats nl) nl.length + caughtRow c n j
  | 0 => by simp [rowTo, caughtRow, sumN]
  | j + 1 => by
    rw [rowTo_succ, ← List.append_assoc, tot_snoc, tot_row c nl n j]
    unfold caughtRow
    rw [sumN_succ, Int.add_assoc]
theorem tot_up (c : Col) : ∀ n, sumN (rats (needsUp c n)) (needsUp c n).length = caughtTo c n
  | 0 => rfl
  | n + 1 => by
    rw [needsUp_succ]
    refine (tot_row c (needsUp c n) n c.rooms.length).trans ?_
    rw [tot_up c n]
    rfl
theorem tot_all (c : Col) : totC c = caughtR c := tot_up c _
end Go.Proofs.Ytnhifinfjfpoiaa

namespace Go.Proofs.Ytnhifinfjfpoiaa
open Go.RowKit
set_option linter.unusedVariables false
set_option linter.unusedSimpArgs false

/-- What the reference's Fitting answers. -/
def rfit (c : Col) : Int := if checkC c = 0 then (if minG c.rooms (groupsC c) (pow2 c.rooms.length) < caughtR c then 7 else 0) else checkC c
theorem rfit_bad {c : Col} (h : checkC c ≠ 0) : rfit c = checkC c := by unfold rfit; rw [if_neg h]
theorem rfit_7 {c : Col} (h : checkC c = 0) (h2 : minG c.rooms (groupsC c) (pow2 c.rooms.length) < caughtR c) : rfit c = 7 := by unfold rfit; rw [if_pos h, if_pos h2]
theorem rfit_0 {c : Col} (h : checkC c = 0) (h2 : ¬ minG c.rooms (groupsC c) (pow2 c.rooms.length) < caughtR c) : rfit c = 0 := by unfold rfit; rw [if_pos h, if_neg h2]
abbrev BoxB (W0 : World) (p : Nat) (r t u n : Value) (W : World) : Prop :=
  W.cell? ⟨p, 0, none⟩ = some r ∧ W.cell? ⟨p, 1, none⟩ = some t ∧ W.cell? ⟨p, 2, none⟩ = some u ∧ W.cell? ⟨p, 3, none⟩ = some n ∧ Hid (Below W0.heap.size W0 W)
theorem BoxB.of {W0 W : World} {p : Nat} {r t u n : Value} (h : W0.heap[p]? = some (.cells #[r, t, u, n] 32 (0, 0))) (hb : Below W0.heap.size W0 W) : BoxB W0 p r t u n W := by
  obtain ⟨a, b, c, d⟩ := four_of (blk_on h hb)
  exact ⟨a, b, c, d, hb⟩

set_option maxRecDepth 100000 in
set_option maxHeartbeats 4000000 in
theorem rfitting_any (c : Col) (r t u n : Value) (w : World) (hc : ColAt w w.heap.size r t u n c) :
    Calls Try.prog 47 #[.agg #[r, t, u, n]] w fun e w' => e = .returned (.int .i64 (rfit c)) ∧ Below w.heap.size w w' := by
  have hBW : Below w.heap.size w (w.alloc (.cells #[r, t, u, n] 32)) := (Below.refl _ w).alloc (Nat.le_refl _) _
  have hcA := hc.on hBW
  have c0 : (w.alloc (.cells #[r, t, u, n] 32)).heap[w.heap.size]? = some (.cells #[r, t, u, n] 32 (0, 0)) := blk _ _ _ _ rfl
  obtain ⟨hr, htr, hu, hn⟩ := hc
  obtain ⟨ar, cr, rfl, _⟩ := hr.open
  obtain ⟨at_, ct, rfl, _⟩ := htr.open
  obtain ⟨au, cu, rfl, _⟩ := hu.open
  obtain ⟨an, cn, rfl, _⟩ := hn.open
  have HB := Lib.hid hBW; have HX := Lib.hid c0; have HC := Lib.hid hcA
  clear hr htr hu hn hBW hcA c0
  go_enter Try.func47, Try.ntmps47
  obtain ⟨W1, hW1⟩ : ∃ W1, (w.alloc (.cells #[.slice ar c.rooms.length cr, .slice at_ c.traps.length ct, .slice au c.runs.length cu, .slice an c.nights.length cn] 32)) = W1 := ⟨_, rfl⟩
  rw [hW1] at HB HX HC
  obtain ⟨q0, q1, q2, q3⟩ := four_of HX.out
  have HCK := Lib.hid (rcheck_any c _ _ _ _ W1 HC.out)
  by_cases hk : checkC c = 0
  · have HOK := Lib.hid (okCol_of hk)
    have HK := Lib.hid hk
    rw [hk] at HCK
    clear hk
    go_upto_region 4 with (first | (rw [hW1]; clear hW1; go_simp) | (go_at_call 21; refine HCK.out.mono ?_; rintro e w1 ⟨rfl, hb1⟩; have H1 := Lib.hid hb1; clear hb1))
    have hP : w1.drew.cell? ⟨w.heap.size, 0, none⟩ = some (.slice ar c.rooms.length cr) ∧ w1.drew.cell? ⟨w.heap.size, 1, none⟩ = some (.slice at_ c.traps.length ct) ∧ w1.drew.cell? ⟨w.heap.size, 2, none⟩ = some (.slice au c.runs.length cu) ∧ w1.drew.cell? ⟨w.heap.size, 3, none⟩ = some (.slice an c.nights.length cn) ∧ Hid (Below W1.heap.size W1 w1.drew) := BoxB.of HX.out H1.out.drew
    have HPQ : Hid (∀ W, Hid (Below W1.heap.size W1 W) → BoxB W1 w.heap.size (.slice ar c.rooms.length cr) (.slice at_ c.traps.length ct) (.slice au c.runs.length cu) (.slice an c.nights.length cn) W) := fun W h => BoxB.of HX.out h.out
    have HGR : Hid (∀ W, Hid (Below W1.heap.size W1 W) → Calls Try.prog 114 #[.agg #[.slice ar c.rooms.length cr, .slice at_ c.traps.length ct, .slice au c.runs.length cu, .slice an c.nights.length cn]] W fun e w' => ∃ a q, e = .returned (.slice a (groupsC c).length q) ∧ Hid (IsGroups w' w'.heap.size (.slice a (groupsC c).length q) (groupsC c)) ∧ Hid (Below W1.heap.size W1 w')) := fun W h => (groups_any c _ _ _ _ W (HC.out.on h.out) HOK.out).mono fun _ _ ⟨v, h1, h2, h3⟩ => by
      have h4 := groups_read HOK.out h2
      obtain ⟨a, q, e, _⟩ := h4.open
      subst e
      exact ⟨a, q, h1, h4, h.out.trans (h3.mono h.out.size)⟩
    have HRO : Hid (∀ W a q, Hid (Below W1.heap.size W1 W) → Hid (IsGroups W W.heap.size (.slice a (groupsC c).length q) (groupsC c)) → Calls Try.prog 116 #[.agg #[.slice ar c.rooms.length cr, .slice at_ c.traps.length ct, .slice au c.runs.length cu, .slice an c.nights.length cn], .slice ar c.rooms.length cr, .slice a (groupsC c).length q] W fun e w' => e = .returned (.int .i64 (minG c.rooms (groupsC c) (pow2 c.rooms.length))) ∧ Hid (Below W1.heap.size W1 w')) := fun W a q h hg => (room_any c _ _ _ _ _ _ _ _ W (HC.out.on h.out) HOK.out.houses.2 (HC.out.on h.out).1 hg.out (roomOk_of HOK.out)).mono fun _ _ ⟨h1, h2⟩ => ⟨h1, h.out.trans (h2.mono h.out.size)⟩
    have HCA : Hid (∀ W, Hid (Below W1.heap.size W1 W) → Calls Try.prog 117 #[.agg #[.slice ar c.rooms.length cr, .slice at_ c.traps.length ct, .slice au c.runs.length cu, .slice an c.nights.length cn]] W fun e w' => e = .returned (.int .i64 (caughtR c)) ∧ Hid (Below W1.heap.size W1 w')) := fun W h => (rcaught_any c _ _ _ _ W (HC.out.on h.out) HOK.out).mono fun _ _ ⟨h1, h2⟩ => ⟨h1, h.out.trans (h2.mono h.out.size)⟩
    clear q0 q1 q2 q3 HCK H1
    go_region_held3 (fun w' => w'.cell? ⟨w.heap.size, 0, none⟩ = some (.slice ar c.rooms.length cr) ∧ w'.cell? ⟨w.heap.size, 1, none⟩ = some (.slice at_ c.traps.length ct) ∧ w'.cell? ⟨w.heap.size, 2, none⟩ = some (.slice au c.runs.length cu) ∧ w'.cell? ⟨w.heap.size, 3, none⟩ = some (.slice an c.nights.length cn) ∧ Hid (Below W1.heap.size W1 w')) (first | with_reducible assumption | exact HPQ.out _ (by assumption) | fail) (first | (go_at_call 114; (with_reducible refine (HGR.out _ (by exact (by assumption : _ ∧ _ ∧ _ ∧ _ ∧ Hid _).2.2.2.2)).mono ?_); rintro e w5 ⟨ag, qg, rfl, hg5, hb5⟩) | (go_at_call 116; (with_reducible refine (HRO.out _ _ _ (by exact (by assumption : _ ∧ _ ∧ _ ∧ _ ∧ Hid _).2.2.2.2) hg5).mono ?_); rintro e w6 ⟨rfl, hb6⟩) | (go_at_call 117; (with_reducible refine (HCA.out _ (by exact (by assumption : _ ∧ _ ∧ _ ∧ _ ∧ Hid _).2.2.2.2)).mono ?_); rintro e w7 ⟨rfl, hb7⟩))
    have HF := Lib.hid (HB.out.trans (hb7.out.mono HB.out.size))
    by_cases hm : minG c.rooms (groupsC c) (pow2 c.rooms.length) < caughtR c
    · have HM := Lib.hid (rfit_7 HK.out hm)
      clear hP HPQ HGR HRO HCA hg5 hb5 hb6 hb7
      go_wp2_with fail
      go_ret
      exact ⟨by rw [HM.out]; rfl, HF.out⟩
    · have HM := Lib.hid (rfit_0 HK.out hm)
      clear hP HPQ HGR HRO HCA hg5 hb5 hb6 hb7
      go_wp2_with fail
      go_ret
      exact ⟨by rw [HM.out]; rfl, HF.out⟩
  · have HK := Lib.hid (rfit_bad hk)
    subst hW1
    clear q0 q1 q2 q3
    go_wp2_with (go_at_call 21; refine HCK.out.mono ?_; rintro e w1 ⟨rfl, hb1⟩; have H1 := Lib.hid hb1; clear hb1)
    go_ret
    exact ⟨by rw [HK.out]; rfl, HB.out.trans (H1.out.mono HB.out.size)⟩
end Go.Proofs.Ytnhifinfjfpoiaa

namespace Go.Proofs.Ytnhifinfjfpoiaa
open Go.RowKit

theorem rfit_is (c : Col) : rfit c = fitErr c := by
  unfold rfit
  by_cases h : checkC c = 0
  · rw [if_pos h, fit_err (okCol_of h) h, min_needs (okCol_of h), tot_all]
  · rw [if_neg h]
    unfold fitErr
    rw [if_neg h]
end Go.Proofs.Ytnhifinfjfpoiaa

namespace Go.Proofs.Ytnhifinfjfpoiaa
open Go.RowKit

/-- A list of marks and a mask that say the same. -/
def MaskOf (l : List Bool) (f : Nat) : Prop := ∀ h, f.testBit h = true ↔ h < l.length ∧ nthB l h = true
theorem MaskOf.within {l : List Bool} {f : Nat} (h : MaskOf l f) (h6 : l.length ≤ 6) (s : Nat) : withinB l s = subB f s.testBit := by
  rw [Bool.eq_iff_iff, subB_iff]
  unfold withinB SubS
  rw [allB_iff]
  constructor
  · intro H k _ hb
    have hk := (h k).1 hb
    have := H k hk.1
    rw [hk.2] at this
    simpa using this
  · intro H k hk
    cases hb : nthB l k
    · rfl
    · have := H k (by omega) ((h k).2 ⟨hk, hb⟩)
      simp [this]
theorem more_is {c : Col} (ok : OkCol c) {l : List Bool} {f : Nat} (hl : l.length = c.rooms.length) (hm : MaskOf l f) : minG c.rooms (groupsC c ++ [(1000, l)]) (pow2 c.rooms.length) = moreC c f := by
  have o2 := ok.houses.2
  have rok := roomOk_of ok
  have hlen := rok.gl40
  have hk : RoomOk c.rooms (groupsC c ++ [(1000, l)]) := by
    refine ⟨rok.rl6, rok.rooms, ?_, ?_, ?_⟩
    · have h1 : c.nights.length * c.rooms.length ≤ 6 * 6 := Nat.mul_le_mul ok.nights ok.houses.2
      rw [List.length_append, groupsC_len, List.length_singleton]; omega
    · intro i hi
      by_cases q : i < (groupsC c).length
      · rw [nthG_left q]; exact rok.rats i q
      · obtain rfl : i = (groupsC c).length := by simp at hi; omega
        rw [nthG_last]; show (0 : Int) ≤ 1000 ∧ (1000 : Int) ≤ 1000; omega
    · intro i hi
      by_cases q : i < (groupsC c).length
      · rw [nthG_left q]; exact rok.from6 i q
      · obtain rfl : i = (groupsC c).length := by simp at hi; omega
        rw [nthG_last]; show l.length ≤ 6; omega
  have hlike : LikeG (groupsC c ++ [(1000, l)]) (needsC c ++ [(1000, (f : Int))]) := (like_all ok).snoc rfl fun s => hm.within (by omega) s
  rw [min_cut hlike hk ?_]
  · have hs := (rooms_sum ok).2
    exact cut_many (needsC c) (nth c.rooms) f (needs_nonneg ok) (fun h hh => (ok.rooms6 h hh).1) (by omega) (by omega)
  · intro o ho h hb
    by_cases q : o < (needsC c).length
    · unfold frm at hb; rw [nthP_left q] at hb; exact needs_in ok o q h hb
    · obtain rfl : o = (needsC c).length := by simp at ho; omega
      unfold frm at hb
      rw [nthP_last] at hb
      have := ((hm h).1 hb).1
      omega
end Go.Proofs.Ytnhifinfjfpoiaa

namespace Go.Proofs.Ytnhifinfjfpoiaa
open Go.RowKit

theorem left_bit {c : Col} (ok : OkCol c) {h f : Nat} (hh : h < c.rooms.length) (hf : f < c.rooms.length) : (leftC c h).testBit f = stayB c f h := by
  unfold leftC stayB
  by_cases h0 : c.nights.length = 0
  · rw [if_neg (by omega), if_pos h0, h0]
    exact org_come ok 0 h f hh hf (Nat.zero_le _)
  · rw [if_neg h0, ← org_come ok (c.nights.length - 1) h f hh hf (by omega)]
    cases hq : fullB c h (c.nights.length - 1)
    · rw [if_pos ⟨hh, by omega, rfl⟩]; simp
    · rw [if_neg (by simp)]; simp
theorem org_out {c : Col} {h : Nat} (hh : ¬ h < c.rooms.length) : ∀ k, org c k h = 0
  | 0 => by unfold org; rw [if_neg hh]
  | k + 1 => by unfold org; rw [if_neg hh]
theorem left_out {c : Col} {h : Nat} (hh : ¬ h < c.rooms.length) : leftC c h = 0 := by
  unfold leftC; rw [if_neg (by omega), org_out hh]
theorem left_in {c : Col} (ok : OkCol c) {h f : Nat} (hb : (leftC c h).testBit f = true) : h < c.rooms.length ∧ f < c.rooms.length := by
  by_cases hh : h < c.rooms.length
  · refine ⟨hh, ?_⟩
    unfold leftC at hb
    split at hb
    · simp at hb
    · exact org_only ok _ h f hb
  · rw [left_out hh] at hb; simp at hb
theorem stays_get {c : Col} {inp : List Bool} {f : Nat} (hf : f < c.rooms.length) : nthB (staysL c inp) f = staysB c inp f := by
  rw [nthB_eq (by rw [staysL_len]; exact hf)]; simp [staysL]
theorem anyB_ex (p : Nat → Bool) : ∀ n, anyB p n = true ↔ ∃ i, i < n ∧ p i = true
  | 0 => by simp [anyB]
  | n + 1 => by
    rw [anyB_succ, Bool.or_eq_true, anyB_ex p n]
    constructor
    · rintro (⟨h, h1, h2⟩ | h)
      · exact ⟨h, by omega, h2⟩
      · exact ⟨n, by omega, h⟩
    · rintro ⟨h, h1, h2⟩
      by_cases q : h < n
      · exact .inl ⟨h, q, h2⟩
      · obtain rfl : h = n := by omega
        exact .inr h2
theorem stays_iff {c : Col} {inp : List Bool} {f : Nat} : staysB c inp f = true ↔ ∃ h, h < c.rooms.length ∧ stayB c f h = true ∧ nthB inp h = true := by
  unfold staysB staysTo
  rw [anyB_ex]
  simp
theorem stays_mask {c : Col} (ok : OkCol c) {inp : List Bool} {U : Nat} (hU : ∀ f, U.testBit f = true ↔ ∃ h, nthB inp h = true ∧ (leftC c h).testBit f = true) : MaskOf (staysL c inp) U := by
  intro f
  rw [hU f, staysL_len]
  constructor
  · rintro ⟨h, h1, h2⟩
    obtain ⟨q1, q2⟩ := left_in ok h2
    refine ⟨q2, ?_⟩
    rw [stays_get q2, stays_iff]
    exact ⟨h, q1, by rw [← left_bit ok q1 q2]; exact h2, h1⟩
  · rintro ⟨q2, h1⟩
    rw [stays_get q2, stays_iff] at h1
    obtain ⟨h, q1, h3, h4⟩ := h1
    exact ⟨h, h4, by rw [left_bit ok q1 q2]; exact h3⟩
theorem union_bit (g : Nat → Nat) (f : Nat) : ∀ k, (unionTo g k).testBit f = true ↔ ∃ h, h < k ∧ (g h).testBit f = true
  | 0 => by simp [unionTo]
  | k + 1 => by
    unfold unionTo
    rw [orN_bit, Bool.or_eq_true, union_bit g f k]
    constructor
    · rintro (⟨h, h1, h2⟩ | h)
      · exact ⟨h, by omega, h2⟩
      · exact ⟨k, by omega, h⟩
    · rintro ⟨h, h1, h2⟩
      by_cases q : h < k
      · exact .inl ⟨h, q, h2⟩
      · obtain rfl : h = k := by omega
        exact .inr h2
theorem all_get {n h : Nat} : nthB (allL n n) h = true ↔ h < n := by
  by_cases q : h < n
  · rw [nthB_eq (by simp [allL]; exact q), allL_get]; simp
  · unfold nthB; rw [List.getD_eq_getElem?_getD, List.getElem?_eq_none (by simp [allL]; omega)]; simp [q]
theorem stays_all {c : Col} (ok : OkCol c) : MaskOf (staysL c (allL c.rooms.length c.rooms.length)) (unionN (leftC c)) := by
  have o2 := ok.houses.2
  refine stays_mask ok fun f => ?_
  unfold unionN
  rw [union_bit]
  constructor
  · rintro ⟨h, _, h2⟩
    exact ⟨h, all_get.2 (left_in ok h2).1, h2⟩
  · rintro ⟨h, h1, h2⟩
    have := (left_in ok h2).1
    exact ⟨h, by omega, h2⟩
end Go.Proofs.Ytnhifinfjfpoiaa

namespace Go.Proofs.Ytnhifinfjfpoiaa
open Go.RowKit
set_option linter.unusedVariables false
set_option linter.unusedSimpArgs false

theorem groups_of_row {w : World} {B : Nat} {v : Value} {gl : List (Int × List Bool)} {us : List Value} (h1 : w.ownsRow B 158 2 v gl.length (zipV gl us)) (hlen : gl.length ≤ 140737488355328) (h2 : ∀ j, j < gl.length → IsBools w w.heap.size (us.getD j (.slice none 0 0)) (nthG gl j).2) : IsGroups w w.heap.size v gl := by
  refine ⟨fun j => us.getD j (.slice none 0 0), ?_, h2⟩
  have hlt := h1.lt
  obtain ⟨_, h | ⟨g, cap, cur, rfl, hg, hc, hn, hm, hs, ht⟩⟩ := h1
  · obtain ⟨rfl, hn⟩ := h
    exact ⟨none, 0, by rw [hn], by omega, hlen, .inl hn⟩
  · refine ⟨some ⟨g, 0, none⟩, cap, rfl, hn, hlen, .inr ⟨g, 0, rfl, (hlt g rfl).2, fun j hj => ?_⟩⟩
    have h1 := cell_of_row w g (0 + j) _ _ _ hc
    refine h1.trans ?_
    have h2 : cur.toList[j]? = (zipV gl us)[j]? := by
      rw [← ht, List.getElem?_take, if_pos hj]
    rw [Nat.zero_add, ← Array.getElem?_toList, h2]
    exact zipTo_get gl us _ j hj
/-- A list of one's own, grown by one group whose list is only read, is a list that is read. -/
theorem grown_read {W w1 : World} {B : Nat} {v' sl u : Value} {gl : List (Int × List Bool)} {us : List Value} {x : Int} {L : List Bool} (hB : B ≤ W.heap.size) (h40 : gl.length ≤ 1000) (h6 : ∀ j, j < gl.length → (nthG gl j).2.length ≤ 1000) (h0 : us.length = gl.length)
    (h1 : W.ownsRow B 158 2 sl gl.length (zipV gl us)) (h2 : ∀ j, j < gl.length → W.ownsRow B 4 1 (us.getD j (.slice none 0 0)) (nthG gl j).2.length ((nthG gl j).2.map Value.bool))
    (hu : IsBools W B u L) (hown : w1.ownsRow B 158 2 v' (gl.length + 1) (zipV gl us ++ [.int .i64 x, u])) (hg : W.grownBy w1 sl.ownBlock) : IsGroups w1 w1.heap.size v' (gl ++ [(x, L)]) := by
  have hbel : Below B W w1 := below_grown (Below.refl _ _) hg (fun r hr => (h1.lt r hr).1) hB
  refine groups_of_row (us := us ++ [u]) (by rw [List.length_append, List.length_singleton, zipV_snoc gl us (x, L) u h0]; exact hown) (by simp; omega) fun j hj => ?_
  by_cases hl : j < gl.length
  · have e1 : nthG (gl ++ [(x, L)]) j = nthG gl j := by unfold nthG; rw [List.getD_eq_getElem?_getD, List.getD_eq_getElem?_getD, List.getElem?_append_left (by omega)]
    have e2 : (us ++ [u]).getD j (.slice none 0 0) = us.getD j (.slice none 0 0) := by rw [List.getD_eq_getElem?_getD, List.getD_eq_getElem?_getD, List.getElem?_append_left (by omega)]
    rw [e1, e2]
    exact bools_of_owns (owns_grown (h2 j hl) hg (fun g cs hc => not_own h1 hc (by decide))) (by have := h6 j hl; omega)
  · obtain rfl : j = gl.length := by simp at hj; omega
    have e1 : nthG (gl ++ [(x, L)]) gl.length = (x, L) := by unfold nthG; simp
    have e2 : (us ++ [u]).getD gl.length (.slice none 0 0) = u := by rw [← h0, List.getD_eq_getElem?_getD, List.getElem?_append_right (Nat.le_refl _)]; simp
    rw [e1, e2]
    exact (SlAt.below hu hbel (Nat.le_refl _)).mono (Nat.le_trans hB hbel.size)

theorem BoxB.alloc {W1 W : World} {p : Nat} {r t u n : Value} {o : Obj} (H : Hid (∀ W, Hid (Below W1.heap.size W1 W) → BoxB W1 p r t u n W)) (h : Hid (Below W1.heap.size W1 W)) : BoxB W1 p r t u n (W.alloc o) :=
  H.out _ (h.out.alloc h.out.size _)
theorem roomOk_more {c : Col} (ok : OkCol c) {l : List Bool} (hl : l.length = c.rooms.length) : RoomOk c.rooms (groupsC c ++ [(1000, l)]) := by
  have o2 := ok.houses.2
  have rok := roomOk_of ok
  have e1 : ∀ i, i < (groupsC c).length → nthG (groupsC c ++ [(1000, l)]) i = nthG (groupsC c) i := fun i hi => by unfold nthG; rw [List.getD_eq_getElem?_getD, List.getD_eq_getElem?_getD, List.getElem?_append_left hi]
  have e2 : nthG (groupsC c ++ [(1000, l)]) (groupsC c).length = (1000, l) := by unfold nthG; simp
  refine ⟨rok.rl6, rok.rooms, ?_, ?_, ?_⟩
  · have h1 : c.nights.length * c.rooms.length ≤ 6 * 6 := Nat.mul_le_mul ok.nights ok.houses.2
    rw [List.length_append, groupsC_len, List.length_singleton]; omega
  · intro i hi
    by_cases q : i < (groupsC c).length
    · rw [e1 i q]; exact rok.rats i q
    · obtain rfl : i = (groupsC c).length := by simp at hi; omega
      rw [e2]; show (0 : Int) ≤ 1000 ∧ (1000 : Int) ≤ 1000; omega
  · intro i hi
    by_cases q : i < (groupsC c).length
    · rw [e1 i q]; exact rok.from6 i q
    · obtain rfl : i = (groupsC c).length := by simp at hi; omega
      rw [e2]; show l.length ≤ 6; omega
theorem minG_bounds {rl : List Int} {gl : List (Int × List Bool)} (ok : RoomOk rl gl) : ∀ K, 0 ≤ minG rl gl K ∧ minG rl gl K ≤ 1000000
  | 0 => by simp [minG]
  | K + 1 => by
    have h1 := minG_bounds ok K
    have h2 := (ok.roomsB K (Nat.le_refl _)).1
    have h3 := (ok.restB K (Nat.le_refl _)).1
    have h4 : 0 ≤ capG rl gl K := by unfold capG; omega
    unfold minG
    split <;> omega
/-- How many can be left that have come from some houses. -/
def leftV (c : Col) (l : List Bool) : Int := minG c.rooms (groupsC c ++ [(1000, l)]) (pow2 c.rooms.length) - caughtR c
theorem leftV_bounds {c : Col} (ok : OkCol c) {l : List Bool} (hl : l.length = c.rooms.length) : wrap64 (minG c.rooms (groupsC c ++ [(1000, l)]) (pow2 c.rooms.length) - caughtR c) = leftV c l ∧ I64 (leftV c l) := by
  have h1 := minG_bounds (roomOk_more ok hl) (pow2 c.rooms.length)
  have h2 := caughtTo_bound ok (Nat.le_refl c.nights.length)
  have h3 := ok.nights
  unfold leftV caughtR
  unfold caughtR at *
  unfold I64 wrap64
  omega

theorem left_grown {c : Col} (ok : OkCol c) {W1 W w6 : World} {sl u v' : Value} {us : List Value} {l : List Bool} (hb : Hid (Below W1.heap.size W1 W)) (hf : IsBools W1 W1.heap.size u l)
    (h : us.length = (groupsC c).length ∧ W.ownsRow W1.heap.size 158 2 sl (groupsC c).length (zipV (groupsC c) us) ∧ ∀ j, j < (groupsC c).length → W.ownsRow W1.heap.size 4 1 (us.getD j (.slice none 0 0)) (nthG (groupsC c) j).2.length ((nthG (groupsC c) j).2.map Value.bool))
    (hown : w6.ownsRow W1.heap.size 158 2 v' ((groupsC c).length + 1) (zipV (groupsC c) us ++ [.int .i64 1000, u])) (hg : W.grownBy w6 sl.ownBlock) :
    Hid (IsGroups w6 w6.heap.size v' (groupsC c ++ [(1000, l)])) ∧ Hid (Below W1.heap.size W1 w6) := by
  have rok := roomOk_of ok
  have h40 := rok.gl40
  exact ⟨grown_read hb.out.size (by omega) (fun j hj => by have := rok.from6 j hj; omega) h.1 h.2.1 h.2.2 (SlAt.below hf hb.out (Nat.le_refl _)) hown hg, below_grown hb.out hg (fun r hr => (h.2.1.lt r hr).1) hb.out.size⟩
theorem owns3_alloc {W : World} {B g : Nat} {sl : Value} {us : List Value} {gl : List (Int × List Bool)} (o : Obj)
    (h : us.length = gl.length ∧ W.ownsRow B g 2 sl gl.length (zipV gl us) ∧ ∀ j, j < gl.length → W.ownsRow B 4 1 (us.getD j (.slice none 0 0)) (nthG gl j).2.length ((nthG gl j).2.map Value.bool)) :
    us.length = gl.length ∧ (W.alloc o).ownsRow B g 2 sl gl.length (zipV gl us) ∧ ∀ j, j < gl.length → (W.alloc o).ownsRow B 4 1 (us.getD j (.slice none 0 0)) (nthG gl j).2.length ((nthG gl j).2.map Value.bool) :=
  ⟨h.1, h.2.1.alloc _, fun j hj => (h.2.2 j hj).alloc _⟩

set_option maxRecDepth 100000 in
set_option maxHeartbeats 4000000 in
theorem rleft_any (c : Col) (r t u n fv : Value) (l : List Bool) (w : World) (hc : ColAt w w.heap.size r t u n c) (ok : OkCol c) (hl : l.length = c.rooms.length) (hf : IsBools w w.heap.size fv l) :
    Calls Try.prog 100 #[.agg #[r, t, u, n], fv] w fun e w' => e = .returned (.int .i64 (leftV c l)) ∧ Below w.heap.size w w' := by
  have hBW : Below w.heap.size w (w.alloc (.cells #[r, t, u, n] 32)) := (Below.refl _ w).alloc (Nat.le_refl _) _
  have hcA := hc.on hBW
  have hfA := hf.on hBW
  have c0 : (w.alloc (.cells #[r, t, u, n] 32)).heap[w.heap.size]? = some (.cells #[r, t, u, n] 32 (0, 0)) := blk _ _ _ _ rfl
  obtain ⟨hr, htr, hu, hn⟩ := hc
  obtain ⟨ar, cr, rfl, _⟩ := hr.open
  obtain ⟨at_, ct, rfl, _⟩ := htr.open
  obtain ⟨au, cu, rfl, _⟩ := hu.open
  obtain ⟨an, cn, rfl, _⟩ := hn.open
  obtain ⟨af, cf, rfl, _⟩ := hf.open
  have HB := Lib.hid hBW; have HX := Lib.hid c0; have HC := Lib.hid hcA; have HF := Lib.hid hfA; have HOK := Lib.hid ok; have HL := Lib.hid hl
  have hlt : w.heap.size < (w.alloc (.cells #[.slice ar c.rooms.length cr, .slice at_ c.traps.length ct, .slice au c.runs.length cu, .slice an c.nights.length cn] 32)).heap.size := by simp
  have HLT := Lib.hid hlt
  clear hr htr hu hn hf hBW hcA c0 hfA ok hl hlt
  go_enter Try.func100, Try.ntmps100
  obtain ⟨W1, hW1⟩ : ∃ W1, (w.alloc (.cells #[.slice ar c.rooms.length cr, .slice at_ c.traps.length ct, .slice au c.runs.length cu, .slice an c.nights.length cn] 32)) = W1 := ⟨_, rfl⟩
  rw [hW1] at HB HX HC HF HLT
  go_upto_region 1 with (fail)
  clear hW1
  have hx1 := HX.out
  have HPQ : Hid (∀ W, Hid (Below W1.heap.size W1 W) → BoxB W1 w.heap.size (.slice ar c.rooms.length cr) (.slice at_ c.traps.length ct) (.slice au c.runs.length cu) (.slice an c.nights.length cn) W) := fun W h => BoxB.of hx1 h.out
  have hP : W1.drew.cell? ⟨w.heap.size, 0, none⟩ = some (.slice ar c.rooms.length cr) ∧ W1.drew.cell? ⟨w.heap.size, 1, none⟩ = some (.slice at_ c.traps.length ct) ∧ W1.drew.cell? ⟨w.heap.size, 2, none⟩ = some (.slice au c.runs.length cu) ∧ W1.drew.cell? ⟨w.heap.size, 3, none⟩ = some (.slice an c.nights.length cn) ∧ Hid (Below W1.heap.size W1 W1.drew) := BoxB.of hx1 (Below.refl _ _).drew
  have HGR : Hid (∀ W, Hid (Below W1.heap.size W1 W) → Calls Try.prog 114 #[.agg #[.slice ar c.rooms.length cr, .slice at_ c.traps.length ct, .slice au c.runs.length cu, .slice an c.nights.length cn]] W fun e w' => ∃ a q, e = .returned (.slice a (groupsC c).length q) ∧ Hid (OwnG w' W1.heap.size (.slice a (groupsC c).length q) (groupsC c)) ∧ Hid (Below W1.heap.size W1 w') ∧ Hid (Below W.heap.size W w')) := fun W h => (groups_any c _ _ _ _ W (HC.out.on h.out) HOK.out).mono fun _ w' ⟨v, h1, h2, h3⟩ => by
    obtain ⟨us, u0, u1, u2⟩ := h2
    obtain ⟨a, q, rfl⟩ := owns_slice u1
    exact ⟨a, q, h1, OwnG.base ⟨us, u0, u1, u2⟩ h.out.size, h.out.trans (h3.mono h.out.size), h3⟩
  have HRO : Hid (∀ W a q, Hid (Below W1.heap.size W1 W) → Hid (IsGroups W W.heap.size (.slice a ((groupsC c).length + 1) q) (groupsC c ++ [(1000, l)])) → Calls Try.prog 116 #[.agg #[.slice ar c.rooms.length cr, .slice at_ c.traps.length ct, .slice au c.runs.length cu, .slice an c.nights.length cn], .slice ar c.rooms.length cr, .slice a ((groupsC c).length + 1) q] W fun e w' => e = .returned (.int .i64 (minG c.rooms (groupsC c ++ [(1000, l)]) (pow2 c.rooms.length))) ∧ Hid (Below W1.heap.size W1 w')) := fun W a q h hg => (room_any c _ _ _ _ _ _ _ _ W (HC.out.on h.out) HOK.out.houses.2 (HC.out.on h.out).1 hg.out (roomOk_more HOK.out HL.out)).mono fun _ _ ⟨h1, h2⟩ => ⟨h1, h.out.trans (h2.mono h.out.size)⟩
  have HCA : Hid (∀ W, Hid (Below W1.heap.size W1 W) → Calls Try.prog 117 #[.agg #[.slice ar c.rooms.length cr, .slice at_ c.traps.length ct, .slice au c.runs.length cu, .slice an c.nights.length cn]] W fun e w' => e = .returned (.int .i64 (caughtR c)) ∧ Hid (Below W1.heap.size W1 w')) := fun W h => (rcaught_any c _ _ _ _ W (HC.out.on h.out) HOK.out).mono fun _ _ ⟨h1, h2⟩ => ⟨h1, h.out.trans (h2.mono h.out.size)⟩
  obtain ⟨i0, hi, hz0, hz1, hz2⟩ := info_parts infoGroup
  have hgl := (roomOk_of HOK.out).gl40
  clear hx1
  go_region_held3 (fun w' => w'.cell? ⟨w.heap.size, 0, none⟩ = some (.slice ar c.rooms.length cr) ∧ w'.cell? ⟨w.heap.size, 1, none⟩ = some (.slice at_ c.traps.length ct) ∧ w'.cell? ⟨w.heap.size, 2, none⟩ = some (.slice au c.runs.length cu) ∧ w'.cell? ⟨w.heap.size, 3, none⟩ = some (.slice an c.nights.length cn) ∧ Hid (Below W1.heap.size W1 w')) (first | with_reducible assumption | exact HPQ.out _ (by assumption) | exact BoxB.alloc HPQ (by exact (by assumption : _ ∧ _ ∧ _ ∧ _ ∧ Hid _).2.2.2.2) | fail) (first | (go_at_call 114; (with_reducible refine (HGR.out _ (by exact (by assumption : _ ∧ _ ∧ _ ∧ _ ∧ Hid _).2.2.2.2)).mono ?_); rintro e w5 ⟨ag, qg, rfl, hg5, hb5, hy5⟩; obtain ⟨us, hus⟩ := hg5.out; have HU := Lib.hid hus; have hz5 := hb5.out.size; clear hus hg5) | (go_at_call 116; (with_reducible refine (HRO.out _ _ _ (by exact (by assumption : _ ∧ _ ∧ _ ∧ _ ∧ Hid _).2.2.2.2) hg6).mono ?_); rintro e w7 ⟨rfl, hb7⟩) | (refine step_append_lies _ (by rfl) _ _ _ (by rfl) W1.heap.size 158 i0 (.agg #[.int .i64 0, .slice none 0 0]) 2 32 Try.underlying155 hi hz0 hz1 hz2 rfl (by decide) (.slice ag (groupsC c).length qg) (groupsC c).length (zipV (groupsC c) us) (by rfl) (HU.out.2.1.alloc _) ⟨w5.heap.size, 0, none⟩ 1 1 [.int .i64 1000, .slice af l.length cf] (by rfl) rfl (World.news_of_block (heap_alloc_new _ _)) (fun y hy => by simp at hy; rcases hy with rfl | rfl <;> rfl) (by decide) (by unfold maxLen; omega) (by omega) (by simp; omega) (w5.heap.size + 1) (by simp) ?_; intro g6 cap6 w6 hown6 hgrow6 _ _; obtain ⟨hg6, hb6⟩ := left_grown HOK.out (hb5.out.alloc hz5 _) HF.out (owns3_alloc _ HU.out) hown6 hgrow6; clear hown6 hgrow6) | (refine step_append_lies _ (by rfl) _ _ _ (by rfl) W1.heap.size 158 i0 (.agg #[.int .i64 0, .slice none 0 0]) 2 32 Try.underlying155 hi hz0 hz1 hz2 rfl (by decide) (.slice ag (groupsC c).length qg) (groupsC c).length (zipV (groupsC c) us) (by rfl) HU.out.2.1 ⟨W1.heap.size, 0, none⟩ 1 1 [.int .i64 1000, .slice af l.length cf] (by rfl) rfl (World.news_of_block (cs := #[.int .i64 1000, .slice af l.length cf]) (t := 158) (fr := (0, 0)) (by first | exact blk_on (blkD _ _ _ _ rfl) hy5.out | exact blk_on (heap_alloc_new _ _) hy5.out)) (fun y hy => by simp at hy; rcases hy with rfl | rfl <;> rfl) (by decide) (by unfold maxLen; omega) (by omega) hz5 w5.heap.size rfl ?_; intro g6 cap6 w6 hown6 hgrow6 _ _; obtain ⟨hg6, hb6⟩ := left_grown HOK.out hb5 HF.out HU.out hown6 hgrow6; clear hown6 hgrow6) | (go_at_call 117; (with_reducible refine (HCA.out _ (by exact (by assumption : _ ∧ _ ∧ _ ∧ _ ∧ Hid _).2.2.2.2)).mono ?_); rintro e w8 ⟨rfl, hb8⟩))
  all_goals
    have HLV := Lib.hid (leftV_bounds HOK.out HL.out).1
    have HF8 := Lib.hid (HB.out.trans (hb8.out.mono HB.out.size))
    clear hP HPQ HGR HRO HCA hb5 hb6 hb7 hb8 hg6 hy5 HU hz5 hi hz0 hz1 hz2
    go_wp2_with fail
    go_ret
    exact ⟨ret_int ((IntKind.wrap_i64 _).trans (by have := HLV.out; unfold wrap64 at this; exact this)), HF8.out⟩
end Go.Proofs.Ytnhifinfjfpoiaa

namespace Go.Proofs.Ytnhifinfjfpoiaa
open Go.RowKit



theorem left_is {c : Col} (hk : fitErr c = 0) {l : List Bool} {f : Nat} (hl : l.length = c.rooms.length) (hm : MaskOf l f) : leftV c l = mostC c (fitX c).all f := by
  have ok := okCol_of (fit_parts hk).1
  unfold leftV
  rw [more_is ok hl hm, most_more ok, fit_all hk, tot_all]
def nearL (c : Col) (h : Nat) : List Bool := (List.range c.rooms.length).map fun o => goesB c o h
theorem nearL_len (c : Col) (h : Nat) : (nearL c h).length = c.rooms.length := by simp [nearL]
theorem nearL_get {c : Col} {h o : Nat} : nthB (nearL c h) o = true ↔ o < c.rooms.length ∧ goesB c o h = true := by
  by_cases q : o < c.rooms.length
  · rw [nthB_eq (by rw [nearL_len]; exact q)]; simp [nearL, q]
  · unfold nthB; rw [List.getD_eq_getElem?_getD, List.getElem?_eq_none (by rw [nearL_len]; omega)]; simp [q]
theorem needAcc_bit (c : Col) (f : Nat) (l : List Nat) : (needAcc c l).testBit f = true ↔ ∃ o, o ∈ l ∧ (leftC c o).testBit f = true := by
  have key : ∀ (l : List Nat) (a : Nat), (l.foldl (fun acc o => orN acc (leftC c o)) a).testBit f = true ↔ a.testBit f = true ∨ ∃ o, o ∈ l ∧ (leftC c o).testBit f = true := by
    intro l
    induction l with
    | nil => intro a; simp
    | cons x l ih =>
      intro a
      rw [List.foldl_cons, ih, orN_bit, Bool.or_eq_true]
      constructor
      · rintro ((h | h) | ⟨o, h1, h2⟩)
        · exact .inl h
        · exact .inr ⟨x, by simp, h⟩
        · exact .inr ⟨o, by simp [h1], h2⟩
      · rintro (h | ⟨o, h1, h2⟩)
        · exact .inl (.inl h)
        · rcases List.mem_cons.1 h1 with rfl | h1
          · exact .inl (.inr h2)
          · exact .inr ⟨o, h1, h2⟩
  unfold needAcc
  rw [key]; simp
theorem need_mask {c : Col} (ok : OkCol c) {h : Nat} (hh : h < c.rooms.length) : MaskOf (staysL c (nearL c h)) (needFrom c h) := by
  have o2 := ok.houses.2
  refine stays_mask ok fun f => ?_
  unfold needFrom
  rw [needAcc_bit]
  constructor
  · rintro ⟨o, h1, h2⟩
    obtain ⟨q1, q2⟩ := List.mem_filter.1 h1
    have ho := List.mem_range.1 q1
    have q3 : goesB c h o = true := by rw [← nearC_bit hh ho]; exact q2
    exact ⟨o, nearL_get.2 ⟨(left_in ok h2).1, by rw [goesB_symm]; exact q3⟩, h2⟩
  · rintro ⟨o, h1, h2⟩
    obtain ⟨q1, q2⟩ := nearL_get.1 h1
    refine ⟨o, List.mem_filter.2 ⟨List.mem_range.2 (by omega), ?_⟩, h2⟩
    show (nearC c h).testBit o = true
    rw [nearC_bit hh (by omega), goesB_symm]; exact q2
theorem only_mask {c : Col} (ok : OkCol c) {h : Nat} (_hh : h < c.rooms.length) {l : List Bool} (hl : ∀ o, nthB l o = true ↔ o = h) : MaskOf (staysL c l) (leftC c h) := by
  refine stays_mask ok fun f => ?_
  constructor
  · intro hb; exact ⟨h, (hl h).2 rfl, hb⟩
  · rintro ⟨o, h1, h2⟩
    rw [(hl o).1 h1] at h2; exact h2
end Go.Proofs.Ytnhifinfjfpoiaa

namespace Go.Proofs.Ytnhifinfjfpoiaa
open Go.RowKit
set_option linter.unusedVariables false
set_option linter.unusedSimpArgs false

abbrev BoxC (p : Nat) (r t u n : Value) (W : World) : Prop :=
  W.cell? ⟨p, 0, none⟩ = some r ∧ W.cell? ⟨p, 1, none⟩ = some t ∧ W.cell? ⟨p, 2, none⟩ = some u ∧ W.cell? ⟨p, 3, none⟩ = some n
theorem BoxC.of {W0 W : World} {p ty : Nat} {r t u n : Value} (h : W0.heap[p]? = some (.cells #[r, t, u, n] ty (0, 0))) (hb : Below W0.heap.size W0 W) : BoxC p r t u n W := four_of (blk_on h hb)
theorem BoxC.store2 {W : World} {p s : Nat} {r t u n x y : Value} (hs : p < s) (h : BoxC p r t u n W) : BoxC p r t u n ((W.setCell ⟨s, 0, none⟩ x).setCell ⟨s, 1, none⟩ y) := by
  have hb : Below s W ((W.setCell ⟨s, 0, none⟩ x).setCell ⟨s, 1, none⟩ y) := ((Below.refl s W).setCell (p := ⟨s, 0, none⟩) (Nat.le_refl _) _).setCell (p := ⟨s, 1, none⟩) (Nat.le_refl _) _
  obtain ⟨a, b, c, d⟩ := h
  have ca := fun o => hb.cell (p := ⟨p, o, none⟩) hs
  exact ⟨(ca 0).trans a, (ca 1).trans b, (ca 2).trans c, (ca 3).trans d⟩
theorem ratsR {c : Col} (hk : fitErr c = 0) : ratsC c = (caughtR c, caughtR c + leftV c (staysL c (allL c.rooms.length c.rooms.length))) := by
  have ok := okCol_of (fit_parts hk).1
  rw [left_is hk (staysL_len _ _) (stays_all ok), rats_more ok, most_more ok, fit_all hk, tot_all]
  congr 1; omega

set_option maxRecDepth 100000 in
set_option maxHeartbeats 4000000 in
theorem rRats_bad (c : Col) (r t u n : Value) (w : World) (hc : ColAt w w.heap.size r t u n c) (hk : ¬ fitErr c = 0) :
    Calls Try.prog 66 #[.agg #[r, t, u, n]] w fun e w' => e = .returned (.tuple #[.agg #[.int .i64 0, .int .i64 0], .int .i64 (fitErr c)]) ∧ Below w.heap.size w w' := by
  have hBW : Below w.heap.size w ((w.alloc (.cells #[r, t, u, n] 32)).alloc (.cells #[.int .i64 0, .int .i64 0] 49)) := ((Below.refl w.heap.size w).alloc (Nat.le_refl _) _).alloc (by simp) _
  have hcA := hc.on hBW
  have HCK := Lib.hid (rfitting_any c r t u n _ hcA)
  rw [rfit_is] at HCK
  have hs : ((w.alloc (.cells #[r, t, u, n] 32)).alloc (.cells #[.int .i64 0, .int .i64 0] 49)).heap[w.heap.size + 1]? = some (.cells #[.int .i64 0, .int .i64 0] 49 (0, 0)) := by
    have := heap_alloc_new (w.alloc (.cells #[r, t, u, n] 32)) (.cells #[.int .i64 0, .int .i64 0] 49)
    rw [World.size_alloc] at this
    exact this
  obtain ⟨hr, htr, hu, hn⟩ := hc
  obtain ⟨ar, cr, rfl, _⟩ := hr.open
  obtain ⟨at_, ct, rfl, _⟩ := htr.open
  obtain ⟨au, cu, rfl, _⟩ := hu.open
  obtain ⟨an, cn, rfl, _⟩ := hn.open
  have HB := Lib.hid hBW
  have HS := Lib.hid hs
  have hk1 : (fitErr c == 0) = false := by simpa using hk
  have hk2 : (fitErr c != 0) = true := by simp [bne, hk1]
  clear hr htr hu hn hBW hk hcA hs
  go_enter Try.func66, Try.ntmps66
  go_wp2_with fail
  refine HCK.out.mono ?_
  rintro e w1 ⟨rfl, hb1⟩
  have hs1 := (hb1.block (w.heap.size + 1) (by simp)).trans HS.out
  have k0 := (cell_of_row w1 _ 0 _ _ _ hs1).trans rfl
  have k1 := (cell_of_row w1 _ 1 _ _ _ hs1).trans rfl
  have k2 := frozen_of_row w1 _ 0 _ _ hs1
  have k3 := frozen_of_row w1 _ 1 _ _ hs1
  have HD := Lib.hid hb1
  clear hb1 hs1
  go_wp2_with fail
  refine bodyPost_ret (v := .tuple #[.agg #[.int .i64 0, .int .i64 0], .int .i64 (fitErr c)]) (by simp [results, Try.results66, go_sem, k0, k1]) rfl ⟨rfl, ?_⟩
  have h1 := HB.out.trans (HD.out.mono (by simp; omega))
  exact (h1.setCell (p := ⟨w.heap.size + 1, 0, none⟩) (Nat.le_succ _) _).setCell (p := ⟨w.heap.size + 1, 1, none⟩) (Nat.le_succ _) _

set_option maxRecDepth 100000 in
set_option maxHeartbeats 4000000 in
theorem rRats_ok (c : Col) (r t u n : Value) (w : World) (hc : ColAt w w.heap.size r t u n c) (hk : fitErr c = 0) :
    Calls Try.prog 66 #[.agg #[r, t, u, n]] w fun e w' => e = .returned (.tuple #[.agg #[.int .i64 (ratsC c).1, .int .i64 (ratsC c).2], .int .i64 0]) ∧ Below w.heap.size w w' := by
  have ok := okCol_of (fit_parts hk).1
  have o2 := ok.houses.2
  have hBW : Below w.heap.size w ((w.alloc (.cells #[r, t, u, n] 32)).alloc (.cells #[.int .i64 0, .int .i64 0] 49)) := ((Below.refl w.heap.size w).alloc (Nat.le_refl _) _).alloc (by simp) _
  have hcA := hc.on hBW
  have hs : ((w.alloc (.cells #[r, t, u, n] 32)).alloc (.cells #[.int .i64 0, .int .i64 0] 49)).heap[w.heap.size + 1]? = some (.cells #[.int .i64 0, .int .i64 0] 49 (0, 0)) := by
    have := heap_alloc_new (w.alloc (.cells #[r, t, u, n] 32)) (.cells #[.int .i64 0, .int .i64 0] 49)
    rw [World.size_alloc] at this
    exact this
  have hx : ((w.alloc (.cells #[r, t, u, n] 32)).alloc (.cells #[.int .i64 0, .int .i64 0] 49)).heap[w.heap.size]? = some (.cells #[r, t, u, n] 32 (0, 0)) := keep _ (blk _ _ _ _ rfl)
  have hcheck := rfitting_any c r t u n _ hcA
  rw [rfit_is, hk] at hcheck
  obtain ⟨hr, htr, hu, hn⟩ := hc
  obtain ⟨ar, cr, rfl, _⟩ := hr.open
  obtain ⟨at_, ct, rfl, _⟩ := htr.open
  obtain ⟨au, cu, rfl, _⟩ := hu.open
  obtain ⟨an, cn, rfl, _⟩ := hn.open
  have HB := Lib.hid hBW; have HS := Lib.hid hs; have HX := Lib.hid hx; have HC := Lib.hid hcA; have HCK := Lib.hid hcheck; have HOK := Lib.hid ok; have HK := Lib.hid hk
  clear hr htr hu hn hBW hk hcA hs hx ok hcheck
  go_enter Try.func66, Try.ntmps66
  go_wp2_with fail
  refine HCK.out.mono ?_
  rintro e w1 ⟨rfl, hb1⟩
  have HC1 := Lib.hid (HC.out.on hb1)
  obtain ⟨q0, q1, q2, q3⟩ := four_of (blk_on HX.out hb1)
  have HCA1 := Lib.hid (rcaught_any c _ _ _ _ w1 HC1.out HOK.out)
  have H1 := Lib.hid hb1
  clear hb1
  go_upto_region 5 with (go_at_call 117; refine HCA1.out.mono ?_; rintro e w2 ⟨rfl, hb2⟩; have H2 := Lib.hid hb2; clear hb2)
  have H2' := Lib.hid (H1.out.trans (H2.out.mono H1.out.size))
  have HC2 := Lib.hid (HC1.out.on H2.out)
  have hx2 := blk_on (blk_on HX.out H1.out) H2.out
  have hs2 := blk_on (blk_on HS.out H1.out) H2.out
  have HPQ : Hid (∀ W, Hid (Below w2.heap.size w2 W) → BoxC w.heap.size (.slice ar c.rooms.length cr) (.slice at_ c.traps.length ct) (.slice au c.runs.length cu) (.slice an c.nights.length cn) W) := fun W h => BoxC.of hx2 h.out
  have hP : w2.drew.cell? ⟨w.heap.size, 0, none⟩ = some (.slice ar c.rooms.length cr) ∧ w2.drew.cell? ⟨w.heap.size, 1, none⟩ = some (.slice at_ c.traps.length ct) ∧ w2.drew.cell? ⟨w.heap.size, 2, none⟩ = some (.slice au c.runs.length cu) ∧ w2.drew.cell? ⟨w.heap.size, 3, none⟩ = some (.slice an c.nights.length cn) := BoxC.of hx2 (Below.refl _ _).drew
  have hb3 : Hid (Below w2.heap.size w2 w2.drew) := (Below.refl _ _).drew
  have HPS : w.heap.size < w.heap.size + 1 := Nat.lt_succ_self _
  have HEV : Hid (∀ W, Hid (Below w2.heap.size w2 W) → Calls Try.prog 129 #[.agg #[.slice ar c.rooms.length cr, .slice at_ c.traps.length ct, .slice au c.runs.length cu, .slice an c.nights.length cn]] W fun e w' => ∃ b, e = .returned (.slice (some ⟨b, 0, none⟩) c.rooms.length c.rooms.length) ∧ Hid (IsBools w' w'.heap.size (.slice (some ⟨b, 0, none⟩) c.rooms.length c.rooms.length) (allL c.rooms.length c.rooms.length)) ∧ Hid (Below w2.heap.size w2 w')) := fun W h => (everywhere_any c _ _ _ _ W (HC2.out.on h.out) (okCol_of (fit_parts HK.out).1).houses.2).mono fun _ w' ⟨b, h1, h2, h3, h4⟩ => by
    refine ⟨b, h1, ?_, h.out.trans (h4.mono h.out.size)⟩
    rw [allL_all]
    have h5 := h2.is (by have := HOK.out.houses.2; simp; omega)
    rw [List.length_replicate] at h5
    exact h5
  have HST : Hid (∀ W b, Hid (Below w2.heap.size w2 W) → Hid (IsBools W W.heap.size (.slice (some ⟨b, 0, none⟩) c.rooms.length c.rooms.length) (allL c.rooms.length c.rooms.length)) → Calls Try.prog 101 #[.agg #[.slice ar c.rooms.length cr, .slice at_ c.traps.length ct, .slice au c.runs.length cu, .slice an c.nights.length cn], .slice (some ⟨b, 0, none⟩) c.rooms.length c.rooms.length] W fun e w' => ∃ b, e = .returned (.slice (some ⟨b, 0, none⟩) c.rooms.length c.rooms.length) ∧ Hid (IsBools w' w'.heap.size (.slice (some ⟨b, 0, none⟩) c.rooms.length c.rooms.length) (staysL c (allL c.rooms.length c.rooms.length))) ∧ Hid (Below w2.heap.size w2 w')) := fun W b h hb => (stays_any c _ _ _ _ _ _ W (HC2.out.on h.out) HOK.out hb.out (allL_len _ _)).mono fun _ w' ⟨b, h1, h2, h3, h4⟩ => by
    refine ⟨b, h1, ?_, h.out.trans (h4.mono h.out.size)⟩
    have h5 := h2.is (by have := HOK.out.houses.2; rw [staysL_len]; omega)
    rw [staysL_len] at h5
    exact h5
  have HLE : Hid (∀ W b, Hid (Below w2.heap.size w2 W) → Hid (IsBools W W.heap.size (.slice (some ⟨b, 0, none⟩) c.rooms.length c.rooms.length) (staysL c (allL c.rooms.length c.rooms.length))) → Calls Try.prog 100 #[.agg #[.slice ar c.rooms.length cr, .slice at_ c.traps.length ct, .slice au c.runs.length cu, .slice an c.nights.length cn], .slice (some ⟨b, 0, none⟩) c.rooms.length c.rooms.length] W fun e w' => e = .returned (.int .i64 (leftV c (staysL c (allL c.rooms.length c.rooms.length)))) ∧ Hid (Below w2.heap.size w2 w') ∧ w'.cell? ⟨w.heap.size + 1, 0, none⟩ = some (.int .i64 0) ∧ w'.cell? ⟨w.heap.size + 1, 1, none⟩ = some (.int .i64 0) ∧ w'.frozen? ⟨w.heap.size + 1, 0, none⟩ = false ∧ w'.frozen? ⟨w.heap.size + 1, 1, none⟩ = false) := fun W b h hb => (rleft_any c _ _ _ _ _ _ W (HC2.out.on h.out) HOK.out (staysL_len _ _) hb.out).mono fun _ w' ⟨h1, h2⟩ => by
    have h3 := h.out.trans (h2.mono h.out.size)
    have h4 := blk_on hs2 h3
    exact ⟨h1, h3, (cell_of_row w' _ 0 _ _ _ h4).trans rfl, (cell_of_row w' _ 1 _ _ _ h4).trans rfl, frozen_of_row w' _ 0 _ _ h4, frozen_of_row w' _ 1 _ _ h4⟩
  clear q0 q1 q2 q3 HCA1 hx2 hs2
  go_region_held3 (fun w' => w'.cell? ⟨w.heap.size, 0, none⟩ = some (.slice ar c.rooms.length cr) ∧ w'.cell? ⟨w.heap.size, 1, none⟩ = some (.slice at_ c.traps.length ct) ∧ w'.cell? ⟨w.heap.size, 2, none⟩ = some (.slice au c.runs.length cu) ∧ w'.cell? ⟨w.heap.size, 3, none⟩ = some (.slice an c.nights.length cn)) (first | with_reducible assumption | with_reducible exact HPQ.out _ hb6 | with_reducible exact HPQ.out _ hb5 | with_reducible exact HPQ.out _ hb4 | exact BoxC.store2 HPS (HPQ.out _ hb6) | fail) (first | (go_at_call 129; (with_reducible refine (HEV.out _ hb3).mono ?_); rintro e w4 ⟨b4, rfl, hg4, hb4⟩) | (go_at_call 101; (with_reducible refine (HST.out _ _ hb4 hg4).mono ?_); rintro e w5 ⟨b5, rfl, hg5, hb5⟩) | (go_at_call 100; (with_reducible refine (HLE.out _ _ hb5 hg5).mono ?_); rintro e w6 ⟨rfl, hb6, k0, k1, k2, k3⟩))
  have hr2 : (ratsC c).1 = caughtR c ∧ (ratsC c).2 = caughtR c + leftV c (staysL c (allL c.rooms.length c.rooms.length)) := by rw [ratsR HK.out]; exact ⟨rfl, rfl⟩
  have hwr : IntKind.i64.wrap (caughtR c + leftV c (staysL c (allL c.rooms.length c.rooms.length))) = (ratsC c).2 := by
    have := rats_bounds HOK.out
    rw [← hr2.2, IntKind.wrap_i64]; omega
  rw [hwr, ← hr2.1]
  have HF := Lib.hid (H2'.out.trans (hb6.out.mono H2'.out.size))
  clear hP HPQ HEV HST HLE hb3 hb4 hb5 hb6 hg4 hg5 hr2 hwr
  go_wp2_with fail
  refine bodyPost_ret (v := .tuple #[.agg #[.int .i64 (ratsC c).1, .int .i64 (ratsC c).2], .int .i64 0]) (by simp [results, Try.results66, go_sem, k0, k1]) rfl ⟨rfl, ?_⟩
  have h1 := HB.out.trans (HF.out.mono HB.out.size)
  exact (h1.setCell (p := ⟨w.heap.size + 1, 0, none⟩) (Nat.le_succ _) _).setCell (p := ⟨w.heap.size + 1, 1, none⟩) (Nat.le_succ _) _
end Go.Proofs.Ytnhifinfjfpoiaa

namespace Go.Proofs.Ytnhifinfjfpoiaa
open Go.RowKit
set_option linter.unusedVariables false
set_option linter.unusedSimpArgs false

/-- How many the reference tells for a house. -/
def afterR (c : Col) (h : Nat) : Int := leftV c (staysL c (onlyL c.rooms.length h))
theorem onlyL_is {n h o : Nat} (hh : h < n) : nthB (onlyL n h) o = true ↔ o = h := by
  by_cases q : o < n
  · rw [nthB_eq (by simp [onlyL]; exact q), onlyL_get]; simp; exact eq_comm
  · unfold nthB; rw [List.getD_eq_getElem?_getD, List.getElem?_eq_none (by simp [onlyL]; omega)]; simp; omega
theorem afterR_is {c : Col} (hk : fitErr c = 0) {h : Nat} (hh : h < c.rooms.length) : afterR c h = mostC c (fitX c).all (leftC c h) :=
  left_is hk (staysL_len _ _) (only_mask (okCol_of (fit_parts hk).1) hh fun o => onlyL_is hh)
theorem onlyL_len (n h : Nat) : (onlyL n h).length = n := by simp [onlyL]
/-- The contracts of a chain of calls, in a world that has grown from W1. -/
theorem chain_only {c : Col} {r t u n : Value} {W1 : World} (HC : ColAt W1 W1.heap.size r t u n c) (ok : OkCol c) {h : Nat} (hh : h < c.rooms.length) : Hid (∀ W, Hid (Below W1.heap.size W1 W) → Calls Try.prog 102 #[.agg #[r, t, u, n], .int .i64 h] W fun e w' => ∃ b, e = .returned (.slice (some ⟨b, 0, none⟩) c.rooms.length c.rooms.length) ∧ Hid (IsBools w' w'.heap.size (.slice (some ⟨b, 0, none⟩) c.rooms.length c.rooms.length) (onlyL c.rooms.length h)) ∧ Hid (Below W1.heap.size W1 w') ∧ Hid (Below W.heap.size W w')) := fun W h' => (only_any c _ _ _ _ h W (HC.on h'.out) ok.houses.2 hh).mono fun _ w' ⟨b, h1, h2, h3, h4⟩ => by
    refine ⟨b, h1, ?_, h'.out.trans (h4.mono h'.out.size), h4⟩
    have h5 := h2.is (by have := ok.houses.2; rw [onlyL_len]; omega)
    rw [onlyL_len] at h5
    exact h5
theorem chain_stays {c : Col} {r t u n : Value} {W1 : World} {l : List Bool} (HC : ColAt W1 W1.heap.size r t u n c) (ok : OkCol c) (hl : l.length = c.rooms.length) : Hid (∀ W b q, Hid (Below W1.heap.size W1 W) → Hid (IsBools W W.heap.size (.slice b c.rooms.length q) l) → Calls Try.prog 101 #[.agg #[r, t, u, n], .slice b c.rooms.length q] W fun e w' => ∃ b, e = .returned (.slice (some ⟨b, 0, none⟩) c.rooms.length c.rooms.length) ∧ Hid (IsBools w' w'.heap.size (.slice (some ⟨b, 0, none⟩) c.rooms.length c.rooms.length) (staysL c l)) ∧ Hid (Below W1.heap.size W1 w') ∧ Hid (Below W.heap.size W w')) := fun W b q h hb => (stays_any c _ _ _ _ _ _ W (HC.on h.out) ok hb.out hl).mono fun _ w' ⟨b, h1, h2, h3, h4⟩ => by
    refine ⟨b, h1, ?_, h.out.trans (h4.mono h.out.size), h4⟩
    have h5 := h2.is (by have := ok.houses.2; rw [staysL_len]; omega)
    rw [staysL_len] at h5
    exact h5
theorem chain_left {c : Col} {r t u n : Value} {W1 : World} {l : List Bool} (HC : ColAt W1 W1.heap.size r t u n c) (ok : OkCol c) (hl : l.length = c.rooms.length) : Hid (∀ W b, Hid (Below W1.heap.size W1 W) → Hid (IsBools W W.heap.size (.slice (some ⟨b, 0, none⟩) c.rooms.length c.rooms.length) l) → Calls Try.prog 100 #[.agg #[r, t, u, n], .slice (some ⟨b, 0, none⟩) c.rooms.length c.rooms.length] W fun e w' => e = .returned (.int .i64 (leftV c l)) ∧ Hid (Below W1.heap.size W1 w') ∧ Hid (Below W.heap.size W w')) := fun W b h hb => (rleft_any c _ _ _ _ _ _ W (HC.on h.out) ok hl hb.out).mono fun _ w' ⟨h1, h2⟩ => ⟨h1, h.out.trans (h2.mono h.out.size), h2⟩

set_option maxRecDepth 100000 in
set_option maxHeartbeats 4000000 in
theorem rAfter_ok (c : Col) (r t u n : Value) (w : World) (hc : ColAt w w.heap.size r t u n c) (hk : fitErr c = 0) :
    Calls Try.prog 29 #[.agg #[r, t, u, n]] w fun e w' => ∃ v, e = .returned (.tuple #[v, .int .i64 0]) ∧ IsInts w' w'.heap.size v (afterC c) ∧ Below w.heap.size w w' := by
  have ok := okCol_of (fit_parts hk).1
  have o2 := ok.houses.2
  have hBW : Below w.heap.size w (w.alloc (.cells #[r, t, u, n] 32)) := (Below.refl w.heap.size w).alloc (Nat.le_refl _) _
  have hcA := hc.on hBW
  have hx : (w.alloc (.cells #[r, t, u, n] 32)).heap[w.heap.size]? = some (.cells #[r, t, u, n] 32 (0, 0)) := blk _ _ _ _ rfl
  have hcheck := rfitting_any c r t u n _ hcA
  rw [rfit_is, hk] at hcheck
  obtain ⟨i0, hi, hz0, hz1, hz2⟩ := info_parts infoInt
  obtain ⟨hr, htr, hu, hn⟩ := hc
  obtain ⟨ar, cr, rfl, _⟩ := hr.open
  obtain ⟨at_, ct, rfl, _⟩ := htr.open
  obtain ⟨au, cu, rfl, _⟩ := hu.open
  obtain ⟨an, cn, rfl, _⟩ := hn.open
  have HB := Lib.hid hBW; have HX := Lib.hid hx; have HC := Lib.hid hcA; have HCK := Lib.hid hcheck; have HOK := Lib.hid ok; have HK := Lib.hid hk
  clear hr htr hu hn hBW hk hcA hx ok hcheck
  go_enter Try.func29, Try.ntmps29
  go_wp2_with fail
  refine HCK.out.mono ?_
  rintro e w1 ⟨rfl, hb1⟩
  have HC1 := Lib.hid (HC.out.on hb1)
  have HX1 := Lib.hid (blk_on HX.out hb1)
  have H1 := Lib.hid hb1
  clear hb1
  go_wp2_with fail
  go_loopw [5, 6] (fun v i wr => ∃ k : Nat, k ≤ c.rooms.length ∧ i = .int .i64 k ∧ Hid (wr.ownsRow w1.heap.size 3 1 v k (intsV (afterTo c k)) ∧ Below w1.heap.size w1 wr)) (fun _ i _ => c.rooms.length - (intOf i).toNat)
  case atStart => exact ⟨0, Nat.zero_le _, rfl, World.ownsRow_nil _ _ _ _, Below.refl _ _⟩
  case round =>
    obtain ⟨k, hk, rfl, HR⟩ := hrel
    obtain ⟨av, cv, rfl⟩ := owns_slice HR.out.1
    obtain ⟨q0, q1, q2, q3⟩ := four_of (blk_on HX1.out HR.out.2)
    by_cases hlt : k < c.rooms.length
    · have hki : (k : Int) < c.rooms.length := by omega
      have hxr := blk_on HX1.out HR.out.2
      have hcr := HC1.out
      have hx1 := HX1.out
      have HPQ : Hid (∀ W, Hid (Below w1.heap.size w1 W) → BoxB w1 w.heap.size (.slice ar c.rooms.length cr) (.slice at_ c.traps.length ct) (.slice au c.runs.length cu) (.slice an c.nights.length cn) W) := fun W h => BoxB.of hx1 h.out
      have hP : wr.drew.cell? ⟨w.heap.size, 0, none⟩ = some (.slice ar c.rooms.length cr) ∧ wr.drew.cell? ⟨w.heap.size, 1, none⟩ = some (.slice at_ c.traps.length ct) ∧ wr.drew.cell? ⟨w.heap.size, 2, none⟩ = some (.slice au c.runs.length cu) ∧ wr.drew.cell? ⟨w.heap.size, 3, none⟩ = some (.slice an c.nights.length cn) ∧ Hid (Below w1.heap.size w1 wr.drew) := BoxB.of hx1 HR.out.2.drew
      have HON := chain_only hcr HOK.out hlt
      have HST := chain_stays hcr HOK.out (onlyL_len c.rooms.length k)
      have HLE := chain_left hcr HOK.out (staysL_len c (onlyL c.rooms.length k))
      have hsz := HR.out.2.size
      clear hxr hcr
      go_upto_region 8 with (fail)
      clear q0 q1 q2 q3
      go_region_held3 (fun w' => w'.cell? ⟨w.heap.size, 0, none⟩ = some (.slice ar c.rooms.length cr) ∧ w'.cell? ⟨w.heap.size, 1, none⟩ = some (.slice at_ c.traps.length ct) ∧ w'.cell? ⟨w.heap.size, 2, none⟩ = some (.slice au c.runs.length cu) ∧ w'.cell? ⟨w.heap.size, 3, none⟩ = some (.slice an c.nights.length cn) ∧ Hid (Below w1.heap.size w1 w')) (first | with_reducible assumption | exact HPQ.out _ (by assumption) | exact BoxB.alloc HPQ (by assumption) | fail) (first | (go_at_call 102; (with_reducible refine (HON.out _ (by exact (by assumption : _ ∧ _ ∧ _ ∧ _ ∧ Hid _).2.2.2.2)).mono ?_); rintro e w4 ⟨b4, rfl, hg4, hb4, hy4⟩) | (go_at_call 101; (with_reducible refine (HST.out _ _ _ (by exact (by assumption : _ ∧ _ ∧ _ ∧ _ ∧ Hid _).2.2.2.2) hg4).mono ?_); rintro e w5 ⟨b5, rfl, hg5, hb5, hy5⟩) | (go_at_call 100; (with_reducible refine (HLE.out _ _ (by exact (by assumption : _ ∧ _ ∧ _ ∧ _ ∧ Hid _).2.2.2.2) hg5).mono ?_); rintro e w6 ⟨rfl, hb6, hy6⟩; have hs6 := hb6.out.size; have HO := Lib.hid ((owns_below (owns_below (owns_below HR.out.1 ((Below.refl wr.heap.size wr).drew.trans hy4.out)) hy5.out) hy6.out).alloc (.cells #[.int .i64 (leftV c (staysL c (onlyL c.rooms.length k)))] 3))) | (refine step_append_lies _ (by rfl) _ _ _ (by rfl) w1.heap.size 3 i0 (.int .i64 0) 1 8 Try.underlying22 hi hz0 hz1 hz2 rfl (by decide) (.slice av k cv) k (intsV (afterTo c k)) (by rfl) HO.out ⟨w6.heap.size, 0, none⟩ 1 1 [.int .i64 (leftV c (staysL c (onlyL c.rooms.length k)))] (by rfl) rfl (World.news_of_block (heap_alloc_new _ _)) (fun y hy => by simp at hy; subst hy; rfl) (by decide) (by unfold maxLen; omega) (by omega) (by simp; omega) (w6.heap.size + 1) (by simp) ?_; intro g7 cap7 w7 hown7 hgrow7 _ _; have H7 := Lib.hid (And.intro hown7 hgrow7); have hb7 : Hid (Below w1.heap.size w1 w7) := below_grown (hb6.out.alloc hs6 _) hgrow7 (fun r hr => (HO.out.lt r hr).1) (by simp; omega); clear hown7 hgrow7))
      have HN := Lib.hid (And.intro H7.out.1 hb7.out)
      have HAR := Lib.hid (afterR_is HK.out hlt)
      clear hP HPQ HON HST HLE hb4 hy4 hg4 hb5 hy5 hg5 hb6 hy6 HO hb7 H7
      go_wp2_with fail
      go_roundw
      case rel => exact ⟨k + 1, by omega, by go_num, by rw [afterTo_succ, intsV_app, ← HAR.out]; exact HN.out.1, HN.out.2⟩
      case measure => simp [intOf]; omega
    · obtain rfl : k = c.rooms.length := by omega
      go_wp2_with fail
      go_ret2
      have h1 := HB.out.trans (H1.out.mono HB.out.size)
      refine ⟨_, rfl, nums_of_owns (b := w1.heap.size) (e := 3) (by rw [afterC, afterTo_len]; exact HR.out.1) (afterTo_i64 c _) (by rw [afterC, afterTo_len]; omega), h1.trans (HR.out.2.mono h1.size)⟩
set_option maxRecDepth 100000 in
set_option maxHeartbeats 4000000 in
theorem rAfter_bad (c : Col) (r t u n : Value) (w : World) (hc : ColAt w w.heap.size r t u n c) (hk : ¬ fitErr c = 0) :
    Calls Try.prog 29 #[.agg #[r, t, u, n]] w fun e w' => e = .returned (.tuple #[.slice none 0 0, .int .i64 (fitErr c)]) ∧ Below w.heap.size w w' := by
  have hBW : Below w.heap.size w (w.alloc (.cells #[r, t, u, n] 32)) := (Below.refl w.heap.size w).alloc (Nat.le_refl _) _
  have hcA := (hc.below hBW (Nat.le_refl _)).mono (B' := (w.alloc (.cells #[r, t, u, n] 32)).heap.size) (by simp)
  have HCK := Lib.hid (rfitting_any c r t u n _ hcA)
  rw [rfit_is] at HCK
  obtain ⟨hr, htr, hu, hn⟩ := hc
  obtain ⟨ar, cr, rfl, _⟩ := hr.open
  obtain ⟨at_, ct, rfl, _⟩ := htr.open
  obtain ⟨au, cu, rfl, _⟩ := hu.open
  obtain ⟨an, cn, rfl, _⟩ := hn.open
  have HB := Lib.hid hBW
  have hk1 : (fitErr c == 0) = false := by simpa using hk
  have hk2 : (fitErr c != 0) = true := by simp [bne, hk1]
  clear hr htr hu hn hBW hk hcA
  go_enter Try.func29, Try.ntmps29
  go_wp2_with fail
  refine HCK.out.mono ?_
  rintro e w1 ⟨rfl, hb1⟩
  go_wp2_with fail
  go_ret2
  exact ⟨rfl, HB.out.trans (hb1.mono (by simp))⟩
end Go.Proofs.Ytnhifinfjfpoiaa

namespace Go.Proofs.Ytnhifinfjfpoiaa
open Go.RowKit
set_option linter.unusedVariables false
set_option linter.unusedSimpArgs false

/-- Marks set up to an index. -/
def upL (p : Nat → Bool) (n k : Nat) : List Bool := (List.range n).map (fun j => if j < k then p j else false)
theorem upL_len (p : Nat → Bool) (n k : Nat) : (upL p n k).length = n := by simp [upL]
theorem upL_get {p : Nat → Bool} {n k i : Nat} (hi : i < (upL p n k).length) : (upL p n k)[i] = if i < k then p i else false := by simp [upL]
theorem upL_zero (p : Nat → Bool) (n : Nat) : List.replicate n false = upL p n 0 := by
  refine List.ext_getElem (by simp [upL]) fun i h1 h2 => ?_
  simp [upL]
theorem upL_nth {p : Nat → Bool} {n k i : Nat} (hi : i < n) : nthB (upL p n k) i = if i < k then p i else false := by
  rw [nthB_eq (by rw [upL_len]; exact hi), upL_get]
theorem upL_set {p : Nat → Bool} {n k : Nat} {x : Bool} (hx : p k = x) : (upL p n k).set k x = upL p n (k + 1) := by
  refine List.ext_getElem (by simp [upL]) fun i h1 h2 => ?_
  rw [List.getElem_set, upL_get h2]
  by_cases e : k = i
  · subst e; simp [hx]
  · rw [if_neg e, upL_get]
    by_cases q : i < k
    · rw [if_pos q, if_pos (by omega)]
    · rw [if_neg q, if_neg (by omega)]
theorem upL_all (p : Nat → Bool) (n : Nat) : upL p n n = (List.range n).map p :=
  List.map_congr_left fun j hj => by rw [if_pos (List.mem_range.1 hj)]
theorem needR_is {c : Col} (hk : fitErr c = 0) {h : Nat} (hh : h < c.rooms.length) : leftV c (staysL c (nearL c h)) = mostC c (fitX c).all (needFrom c h) :=
  left_is hk (staysL_len _ _) (need_mask (okCol_of (fit_parts hk).1) hh)

set_option maxRecDepth 100000 in
set_option maxHeartbeats 4000000 in
theorem rNeed_ok (c : Col) (r t u n : Value) (w : World) (hc : ColAt w w.heap.size r t u n c) (hk : fitErr c = 0) :
    Calls Try.prog 31 #[.agg #[r, t, u, n]] w fun e w' => ∃ v, e = .returned (.tuple #[v, .int .i64 0]) ∧ IsInts w' w'.heap.size v (needC c) ∧ Below w.heap.size w w' := by
  have ok := okCol_of (fit_parts hk).1
  have o2 := ok.houses.2
  have hBW : Below w.heap.size w (w.alloc (.cells #[r, t, u, n] 32)) := (Below.refl w.heap.size w).alloc (Nat.le_refl _) _
  have hcA := hc.on hBW
  have hx : (w.alloc (.cells #[r, t, u, n] 32)).heap[w.heap.size]? = some (.cells #[r, t, u, n] 32 (0, 0)) := blk _ _ _ _ rfl
  have hcheck := rfitting_any c r t u n _ hcA
  rw [rfit_is, hk] at hcheck
  obtain ⟨i0, hi, hz0, hz1, hz2⟩ := info_parts infoInt
  obtain ⟨hr, htr, hu, hn⟩ := hc
  obtain ⟨ar, cr, rfl, _⟩ := hr.open
  obtain ⟨at_, ct, rfl, _⟩ := htr.open
  obtain ⟨au, cu, rfl, _⟩ := hu.open
  obtain ⟨an, cn, rfl, _⟩ := hn.open
  have HB := Lib.hid hBW; have HX := Lib.hid hx; have HC := Lib.hid hcA; have HCK := Lib.hid hcheck; have HOK := Lib.hid ok; have HK := Lib.hid hk
  clear hr htr hu hn hBW hk hcA hx ok hcheck
  go_enter Try.func31, Try.ntmps31
  go_wp2_with fail
  refine HCK.out.mono ?_
  rintro e w1 ⟨rfl, hb1⟩
  have HC1 := Lib.hid (HC.out.on hb1)
  have HX1 := Lib.hid (blk_on HX.out hb1)
  have H1 := Lib.hid hb1
  clear hb1
  go_wp2_with fail
  go_loopw [5, 6] (fun v i wr => ∃ k : Nat, k ≤ c.rooms.length ∧ i = .int .i64 k ∧ Hid (wr.ownsRow w1.heap.size 3 1 v k (intsV (needTo c k)) ∧ Below w1.heap.size w1 wr)) (fun _ i _ => c.rooms.length - (intOf i).toNat)
  case atStart => exact ⟨0, Nat.zero_le _, rfl, World.ownsRow_nil _ _ _ _, Below.refl _ _⟩
  case round =>
    obtain ⟨k, hk, rfl, HR⟩ := hrel
    obtain ⟨av, cv, rfl⟩ := owns_slice HR.out.1
    obtain ⟨q0, q1, q2, q3⟩ := four_of (blk_on HX1.out HR.out.2)
    by_cases hlt : k < c.rooms.length
    · have hki : (k : Int) < c.rooms.length := by omega
      have HGO := Lib.hid (fun o (wq : World) (hb : Below w1.heap.size w1 wq) => goes_any c _ _ _ _ o k wq (HC1.out.on hb))
      have hx0 : BoolsAt (wr.alloc (.cells (bw (List.replicate c.rooms.length false)) 4)) wr.heap.size (upL (fun o => goesB c o k) c.rooms.length 0) := by rw [← upL_zero]; exact heap_alloc_new _ _
      have hx1 : Below wr.heap.size wr (wr.alloc (.cells (bw (List.replicate c.rooms.length false)) 4)) := (Below.refl _ _).alloc (Nat.le_refl _) _
      have HIN := Lib.hid (And.intro hx0 hx1)
      have hmk := fun W => make_bools c.rooms.length (by omega) W
      have hsz := HR.out.2.size
      clear hx0 hx1
      go_wp2_with fail
      obtain ⟨wo, rfl⟩ : ∃ wo : World, wo = wr := ⟨_, rfl⟩
      clear q0 q1 q2 q3
      go_loopw [8] (fun i wq => ∃ o : Nat, o ≤ c.rooms.length ∧ i = .int .i64 o ∧ Hid (BoolsAt wq wo.heap.size (upL (fun o => goesB c o k) c.rooms.length o) ∧ Below wo.heap.size wo wq)) (fun i _ => c.rooms.length - (intOf i).toNat)
      case atStart => exact ⟨0, Nat.zero_le _, rfl, HIN.out⟩
      case round =>
        obtain ⟨o, ho, rfl, HQ⟩ := hrel
        by_cases hol : o < c.rooms.length
        · have hoi : (o : Int) < c.rooms.length := by omega
          have hbq : Below w1.heap.size w1 wr := HR.out.2.trans (HQ.out.2.mono hsz)
          obtain ⟨q0, q1, q2, q3⟩ := four_of (blk_on HX1.out hbq)
          have HGQ := Lib.hid (HGO.out o wr hbq)
          have hbl : wo.heap.size < wr.heap.size := (Array.getElem?_eq_some_iff.1 HQ.out.1).1
          have HBL := Lib.hid hbl
          clear hbq hbl
          go_wp2_with (go_at_call 104; refine HGQ.out.mono ?_; rintro e w5 ⟨rfl, hb5⟩; have n5 : BoolsAt w5 wo.heap.size (upL (fun o => goesB c o k) c.rooms.length o) := (hb5.block _ HBL.out).trans HQ.out.1; have d5 := n5.cell o (by rw [upL_len]; exact hol); have f5 := n5.free o; have H5 := Lib.hid (And.intro n5 (HQ.out.2.trans (hb5.mono HQ.out.2.size))); clear n5 hb5)
          go_roundw
          case rel =>
            refine ⟨o + 1, by omega, by go_num, ?_⟩
            rw [← upL_set (p := fun o => goesB c o k) (n := c.rooms.length) (k := o) (x := goesI c o k) rfl]
            exact ⟨H5.out.1.set o _, H5.out.2.setCell (p := ⟨wo.heap.size, o, none⟩) (Nat.le_refl _) _⟩
          case measure => simp [intOf]; omega
        · obtain rfl : o = c.rooms.length := by omega
          have hxr := blk_on HX1.out (HR.out.2.trans (HQ.out.2.mono hsz))
          have hcr := HC1.out
          have hx1 := HX1.out
          have HPQ : Hid (∀ W, Hid (Below w1.heap.size w1 W) → BoxB w1 w.heap.size (.slice ar c.rooms.length cr) (.slice at_ c.traps.length ct) (.slice au c.runs.length cu) (.slice an c.nights.length cn) W) := fun W h => BoxB.of hx1 h.out
          have hP : wr.drew.cell? ⟨w.heap.size, 0, none⟩ = some (.slice ar c.rooms.length cr) ∧ wr.drew.cell? ⟨w.heap.size, 1, none⟩ = some (.slice at_ c.traps.length ct) ∧ wr.drew.cell? ⟨w.heap.size, 2, none⟩ = some (.slice au c.runs.length cu) ∧ wr.drew.cell? ⟨w.heap.size, 3, none⟩ = some (.slice an c.nights.length cn) ∧ Hid (Below w1.heap.size w1 wr.drew) := BoxB.of hx1 (HR.out.2.trans (HQ.out.2.mono hsz)).drew
          have HST := chain_stays hcr HOK.out (nearL_len c k)
          have HLE := chain_left hcr HOK.out (staysL_len c (nearL c k))
          have hszq := HQ.out.2.size
          have hin : Hid (IsBools wr.drew wr.drew.heap.size (.slice (some ⟨wo.heap.size, 0, none⟩) c.rooms.length c.rooms.length) (nearL c k)) := by
            have h5 := HQ.out.1.is (by rw [upL_len]; omega)
            rw [upL_len, upL_all] at h5
            exact h5.on ((Below.refl wr.heap.size wr).drew)
          have hrow := owns_below HR.out.1 HQ.out.2
          have HRO := Lib.hid hrow
          clear hrow
          clear hxr hcr
          go_upto_region 13 with (fail)
          go_region_held3 (fun w' => w'.cell? ⟨w.heap.size, 0, none⟩ = some (.slice ar c.rooms.length cr) ∧ w'.cell? ⟨w.heap.size, 1, none⟩ = some (.slice at_ c.traps.length ct) ∧ w'.cell? ⟨w.heap.size, 2, none⟩ = some (.slice au c.runs.length cu) ∧ w'.cell? ⟨w.heap.size, 3, none⟩ = some (.slice an c.nights.length cn) ∧ Hid (Below w1.heap.size w1 w')) (first | with_reducible assumption | exact HPQ.out _ (by assumption) | exact BoxB.alloc HPQ (by assumption) | fail) (first | (go_at_call 101; (with_reducible refine (HST.out _ _ _ (by exact (by assumption : _ ∧ _ ∧ _ ∧ _ ∧ Hid _).2.2.2.2) hin).mono ?_); rintro e w5 ⟨b5, rfl, hg5, hb5, hy5⟩) | (go_at_call 100; (with_reducible refine (HLE.out _ _ (by exact (by assumption : _ ∧ _ ∧ _ ∧ _ ∧ Hid _).2.2.2.2) hg5).mono ?_); rintro e w6 ⟨rfl, hb6, hy6⟩; have hs6 := hb6.out.size; have HO := Lib.hid ((owns_below (owns_below HRO.out ((Below.refl wr.heap.size wr).drew.trans hy5.out)) hy6.out).alloc (.cells #[.int .i64 (leftV c (staysL c (nearL c k)))] 3))) | (refine step_append_lies _ (by rfl) _ _ _ (by rfl) w1.heap.size 3 i0 (.int .i64 0) 1 8 Try.underlying22 hi hz0 hz1 hz2 rfl (by decide) (.slice av k cv) k (intsV (needTo c k)) (by rfl) HO.out ⟨w6.heap.size, 0, none⟩ 1 1 [.int .i64 (leftV c (staysL c (nearL c k)))] (by rfl) rfl (World.news_of_block (heap_alloc_new _ _)) (fun y hy => by simp at hy; subst hy; rfl) (by decide) (by unfold maxLen; omega) (by omega) (by simp; omega) (w6.heap.size + 1) (by simp) ?_; intro g7 cap7 w7 hown7 hgrow7 _ _; have H7 := Lib.hid (And.intro hown7 hgrow7); have hb7 : Hid (Below w1.heap.size w1 w7) := below_grown (hb6.out.alloc hs6 _) hgrow7 (fun r hr => (HO.out.lt r hr).1) (by simp; omega); clear hown7 hgrow7))
          have HN := Lib.hid (And.intro H7.out.1 hb7.out)
          have HAR := Lib.hid (needR_is HK.out hlt)
          clear hP HPQ HST HLE hin hb5 hy5 hg5 hb6 hy6 HO hb7 H7
          go_wp2_with fail
          go_roundw
          case rel => exact ⟨k + 1, by omega, by go_num, by rw [needTo_succ, intsV_app, ← HAR.out]; exact HN.out.1, HN.out.2⟩
          case measure => simp [intOf]; omega
    · obtain rfl : k = c.rooms.length := by omega
      go_wp2_with fail
      go_ret2
      have h1 := HB.out.trans (H1.out.mono HB.out.size)
      refine ⟨_, rfl, nums_of_owns (b := w1.heap.size) (e := 3) (by rw [needC, needTo_len]; exact HR.out.1) (needTo_i64 c _) (by rw [needC, needTo_len]; omega), h1.trans (HR.out.2.mono h1.size)⟩
set_option maxRecDepth 100000 in
set_option maxHeartbeats 4000000 in
theorem rNeed_bad (c : Col) (r t u n : Value) (w : World) (hc : ColAt w w.heap.size r t u n c) (hk : ¬ fitErr c = 0) :
    Calls Try.prog 31 #[.agg #[r, t, u, n]] w fun e w' => e = .returned (.tuple #[.slice none 0 0, .int .i64 (fitErr c)]) ∧ Below w.heap.size w w' := by
  have hBW : Below w.heap.size w (w.alloc (.cells #[r, t, u, n] 32)) := (Below.refl w.heap.size w).alloc (Nat.le_refl _) _
  have hcA := (hc.below hBW (Nat.le_refl _)).mono (B' := (w.alloc (.cells #[r, t, u, n] 32)).heap.size) (by simp)
  have HCK := Lib.hid (rfitting_any c r t u n _ hcA)
  rw [rfit_is] at HCK
  obtain ⟨hr, htr, hu, hn⟩ := hc
  obtain ⟨ar, cr, rfl, _⟩ := hr.open
  obtain ⟨at_, ct, rfl, _⟩ := htr.open
  obtain ⟨au, cu, rfl, _⟩ := hu.open
  obtain ⟨an, cn, rfl, _⟩ := hn.open
  have HB := Lib.hid hBW
  have hk1 : (fitErr c == 0) = false := by simpa using hk
  have hk2 : (fitErr c != 0) = true := by simp [bne, hk1]
  clear hr htr hu hn hBW hk hcA
  go_enter Try.func31, Try.ntmps31
  go_wp2_with fail
  refine HCK.out.mono ?_
  rintro e w1 ⟨rfl, hb1⟩
  go_wp2_with fail
  go_ret2
  exact ⟨rfl, HB.out.trans (hb1.mono (by simp))⟩
end Go.Proofs.Ytnhifinfjfpoiaa

namespace Go.Proofs.Ytnhifinfjfpoiaa
open Go.RowKit
set_option linter.unusedVariables false
set_option linter.unusedSimpArgs false
attribute [local go_sem] Oper.semAt_some

set_option maxRecDepth 100000 in
set_option maxHeartbeats 2000000 in
theorem rGrow_ok (c : Col) (r t u n : Value) (p k : Int) (w : World) (hc : ColAt w w.heap.size r t u n c) (hk : growErr c p k = 0) :
    Calls Try.prog 33 #[.agg #[r, t, u, n], .int .i64 p, .int .i64 k] w fun e w' => e = .returned (.tuple #[.agg #[.int .i64 0, .int .i64 (growC c p k)], .int .i64 0]) ∧ Below w.heap.size w w' := by
  obtain ⟨k0, k1, k2, k3⟩ := grow_in hk
  have a := inB_true k2
  have hp := inB_true k1
  obtain ⟨K, rfl⟩ : ∃ K : Nat, k = K := ⟨k.toNat, by omega⟩
  have hK : K ≤ 20 := by omega
  have hrb := rats_bounds (okCol_of k0)
  have hBW : Below w.heap.size w ((w.alloc (.cells #[r, t, u, n] 32)).alloc (.cells #[.int .i64 0, .int .i64 0] 49)) := ((Below.refl w.heap.size w).alloc (Nat.le_refl _) _).alloc (by simp) _
  have hcA := (hc.below hBW (Nat.le_refl _)).mono (B' := ((w.alloc (.cells #[r, t, u, n] 32)).alloc (.cells #[.int .i64 0, .int .i64 0] 49)).heap.size) (by simp; omega)
  have HC := Lib.hid hcA
  have HCH := Lib.hid (rcheck_any c r t u n _ hcA)
  have hs : ((w.alloc (.cells #[r, t, u, n] 32)).alloc (.cells #[.int .i64 0, .int .i64 0] 49)).heap[w.heap.size + 1]? = some (.cells #[.int .i64 0, .int .i64 0] 49 (0, 0)) := by
    have := heap_alloc_new (w.alloc (.cells #[r, t, u, n] 32)) (.cells #[.int .i64 0, .int .i64 0] 49)
    rw [World.size_alloc] at this
    exact this
  have hx0 : ((w.alloc (.cells #[r, t, u, n] 32)).alloc (.cells #[.int .i64 0, .int .i64 0] 49)).cell? ⟨w.heap.size, 0, none⟩ = some r ∧ ((w.alloc (.cells #[r, t, u, n] 32)).alloc (.cells #[.int .i64 0, .int .i64 0] 49)).cell? ⟨w.heap.size, 1, none⟩ = some t ∧ ((w.alloc (.cells #[r, t, u, n] 32)).alloc (.cells #[.int .i64 0, .int .i64 0] 49)).cell? ⟨w.heap.size, 2, none⟩ = some u ∧ ((w.alloc (.cells #[r, t, u, n] 32)).alloc (.cells #[.int .i64 0, .int .i64 0] 49)).cell? ⟨w.heap.size, 3, none⟩ = some n := by simp [go_sem]
  have HX := Lib.hid hx0
  obtain ⟨hr, htr, hu, hn⟩ := hc
  obtain ⟨ar, cr, rfl, _⟩ := hr.open
  obtain ⟨at_, ct, rfl, _⟩ := htr.open
  obtain ⟨au, cu, rfl, _⟩ := hu.open
  obtain ⟨an, cn, rfl, _⟩ := hn.open
  have HB := Lib.hid hBW
  have HS := Lib.hid hs
  have HF := Lib.hid k3
  rw [k0] at HCH
  have HK0 := Lib.hid k0
  clear hr htr hu hn hBW hk hcA hs hx0 k3 k0 a
  go_enter Try.func33, Try.ntmps33
  go_wp2_with fail
  refine HCH.out.mono ?_
  rintro e w1 ⟨rfl, hb1⟩
  have c0 := (hb1.cell (p := ⟨w.heap.size, 0, none⟩) (by simp; omega)).trans HX.out.1
  have c1 := (hb1.cell (p := ⟨w.heap.size, 1, none⟩) (by simp; omega)).trans HX.out.2.1
  have c2 := (hb1.cell (p := ⟨w.heap.size, 2, none⟩) (by simp; omega)).trans HX.out.2.2.1
  have c3 := (hb1.cell (p := ⟨w.heap.size, 3, none⟩) (by simp; omega)).trans HX.out.2.2.2
  have hs1 := (hb1.block (w.heap.size + 1) (by simp)).trans HS.out
  have HRT := Lib.hid (rRats_ok c _ _ _ _ w1 ((HC.out.below hb1 (Nat.le_refl _)).mono hb1.size) HF.out)
  have HD := Lib.hid (And.intro hb1 hs1)
  clear hb1 hs1
  go_wp2_with (first | (go_at_call 87; refine (off_any _ _ _ _).mono ?_; (first | rw [k1] | rw [k2]); rintro e w' ⟨rfl, rfl⟩) | (go_at_call 66; refine HRT.out.mono ?_; rintro e w2 ⟨rfl, hb2⟩; have H2 := Lib.hid hb2; clear hb2))
  have hw5 : ∀ W5, (w2.alloc (.cells #[.int .i64 (ratsC c).1, .int .i64 (ratsC c).2] 49)) = W5 → W5.heap[w.heap.size + 1]? = some (.cells #[.int .i64 0, .int .i64 0] 49 (0, 0)) ∧ Below w1.heap.size w1 W5 := by
    rintro _ rfl
    have hb2 := H2.out
    have hb3 : Below w1.heap.size w1 (w2.alloc (.cells #[.int .i64 (ratsC c).1, .int .i64 (ratsC c).2] 49)) := hb2.alloc hb2.size _
    exact ⟨(hb3.block _ (Nat.lt_of_lt_of_le (by simp) HD.out.1.size)).trans HD.out.2, hb3⟩
  obtain ⟨W5, hW5⟩ : ∃ W5, (w2.alloc (.cells #[.int .i64 (ratsC c).1, .int .i64 (ratsC c).2] 49)) = W5 := ⟨_, rfl⟩
  obtain ⟨s5, b5⟩ := hw5 _ hW5
  rw [hW5]
  have m0 := (cell_of_row W5 _ 0 _ _ _ s5).trans rfl
  have m1 := (cell_of_row W5 _ 1 _ _ _ s5).trans rfl
  have f0 := frozen_of_row W5 _ 0 _ _ s5
  have f1 := frozen_of_row W5 _ 1 _ _ s5
  have H5 := Lib.hid (And.intro s5 b5)
  have hn : 0 ≤ (ratsC c).2 - (ratsC c).1 ∧ (ratsC c).2 - (ratsC c).1 ≤ 360 := by omega
  clear hW5 hw5 s5 b5 c0 c1 c2 c3 hrb
  have HN := Lib.hid hn
  have HP := Lib.hid hp
  clear hn hp
  go_loopw [11, 12] (fun a i wr => ∃ k : Nat, k ≤ K ∧ i = .int .i64 k ∧ a = .int .i64 (growN p ((ratsC c).2 - (ratsC c).1) k) ∧ W5 = wr) (fun _ i _ => K - (intOf i).toNat)
  case atStart => exact ⟨0, Nat.zero_le _, rfl, rfl, rfl⟩
  case round =>
    obtain ⟨k, hk, rfl, rfl, rfl⟩ := hrel
    by_cases hlt : k < K
    · have hki : (k : Int) < K := by omega
      obtain ⟨g1, g2, g3, g4⟩ := growN_bound20 HP.out HN.out (k := k) (by omega)
      go_wp2_with fail
      go_roundw
      case rel => exact ⟨k + 1, by omega, by go_num, rfl, by simp⟩
      case measure => simp [intOf]; omega
    · obtain rfl : k = K := by omega
      go_wp2_with fail
      refine bodyPost_ret (v := .tuple #[.agg #[.int .i64 0, .int .i64 (growN p ((ratsC c).2 - (ratsC c).1) k)], .int .i64 0]) (by simp [results, Try.results33, go_sem, m0, m1]) rfl ⟨rfl, ?_⟩
      have h1 := HB.out.trans (HD.out.1.mono (by simp; omega))
      have h2 := h1.trans (H5.out.2.mono h1.size)
      exact (h2.setCell (p := ⟨w.heap.size + 1, 0, none⟩) (Nat.le_succ _) _).setCell (p := ⟨w.heap.size + 1, 1, none⟩) (Nat.le_succ _) _

set_option maxRecDepth 100000 in
set_option maxHeartbeats 2000000 in
theorem rGrow_bad (c : Col) (r t u n : Value) (p k : Int) (w : World) (hc : ColAt w w.heap.size r t u n c) (hk : ¬ growErr c p k = 0) :
    Calls Try.prog 33 #[.agg #[r, t, u, n], .int .i64 p, .int .i64 k] w fun e w' => e = .returned (.tuple #[.agg #[.int .i64 0, .int .i64 0], .int .i64 (growErr c p k)]) ∧ Below w.heap.size w w' := by
  have hBW : Below w.heap.size w ((w.alloc (.cells #[r, t, u, n] 32)).alloc (.cells #[.int .i64 0, .int .i64 0] 49)) := ((Below.refl w.heap.size w).alloc (Nat.le_refl _) _).alloc (by simp) _
  have hcA := (hc.below hBW (Nat.le_refl _)).mono (B' := ((w.alloc (.cells #[r, t, u, n] 32)).alloc (.cells #[.int .i64 0, .int .i64 0] 49)).heap.size) (by simp; omega)
  have HC := Lib.hid hcA
  have HCH := Lib.hid (rcheck_any c r t u n _ hcA)
  have hs : ((w.alloc (.cells #[r, t, u, n] 32)).alloc (.cells #[.int .i64 0, .int .i64 0] 49)).heap[w.heap.size + 1]? = some (.cells #[.int .i64 0, .int .i64 0] 49 (0, 0)) := by
    have := heap_alloc_new (w.alloc (.cells #[r, t, u, n] 32)) (.cells #[.int .i64 0, .int .i64 0] 49)
    rw [World.size_alloc] at this
    exact this
  have hx0 : ((w.alloc (.cells #[r, t, u, n] 32)).alloc (.cells #[.int .i64 0, .int .i64 0] 49)).cell? ⟨w.heap.size, 0, none⟩ = some r ∧ ((w.alloc (.cells #[r, t, u, n] 32)).alloc (.cells #[.int .i64 0, .int .i64 0] 49)).cell? ⟨w.heap.size, 1, none⟩ = some t ∧ ((w.alloc (.cells #[r, t, u, n] 32)).alloc (.cells #[.int .i64 0, .int .i64 0] 49)).cell? ⟨w.heap.size, 2, none⟩ = some u ∧ ((w.alloc (.cells #[r, t, u, n] 32)).alloc (.cells #[.int .i64 0, .int .i64 0] 49)).cell? ⟨w.heap.size, 3, none⟩ = some n := by simp [go_sem]
  have HX := Lib.hid hx0
  obtain ⟨hr, htr, hu, hn⟩ := hc
  obtain ⟨ar, cr, rfl, _⟩ := hr.open
  obtain ⟨at_, ct, rfl, _⟩ := htr.open
  obtain ⟨au, cu, rfl, _⟩ := hu.open
  obtain ⟨an, cn, rfl, _⟩ := hn.open
  have HB := Lib.hid hBW
  have HS := Lib.hid hs
  clear hr htr hu hn hBW hcA hs hx0
  by_cases q : checkC c = 0
  · rw [q] at HCH
    by_cases q2 : inB p 0 100 = true ∧ inB k 0 20 = true
    · have e : growErr c p k = fitErr c := by unfold growErr; rw [if_pos q, if_pos q2]
      rw [e] at hk ⊢
      obtain ⟨k1, k2⟩ := q2
      have hk1 : (fitErr c == 0) = false := by simpa using hk
      have hk2 : (fitErr c != 0) = true := by simp [bne, hk1]
      have HK := Lib.hid hk
      clear e q hk
      go_enter Try.func33, Try.ntmps33
      go_wp2_with fail
      refine HCH.out.mono ?_
      rintro e w1 ⟨rfl, hb1⟩
      have c0 := (hb1.cell (p := ⟨w.heap.size, 0, none⟩) (by simp; omega)).trans HX.out.1
      have c1 := (hb1.cell (p := ⟨w.heap.size, 1, none⟩) (by simp; omega)).trans HX.out.2.1
      have c2 := (hb1.cell (p := ⟨w.heap.size, 2, none⟩) (by simp; omega)).trans HX.out.2.2.1
      have c3 := (hb1.cell (p := ⟨w.heap.size, 3, none⟩) (by simp; omega)).trans HX.out.2.2.2
      have hs1 := (hb1.block (w.heap.size + 1) (by simp)).trans HS.out
      have HRT := Lib.hid (rRats_bad c _ _ _ _ w1 ((HC.out.below hb1 (Nat.le_refl _)).mono hb1.size) HK.out)
      have HD := Lib.hid (And.intro hb1 hs1)
      have hkey : ∀ W : World, Below w1.heap.size w1 W → W.cell? ⟨w.heap.size + 1, 0, none⟩ = some (.int .i64 0) ∧ W.cell? ⟨w.heap.size + 1, 1, none⟩ = some (.int .i64 0) ∧ W.frozen? ⟨w.heap.size + 1, 0, none⟩ = false ∧ W.frozen? ⟨w.heap.size + 1, 1, none⟩ = false := fun W hW => by
        have h := (hW.block (w.heap.size + 1) (Nat.lt_of_lt_of_le (by simp) hb1.size)).trans hs1
        exact ⟨(cell_of_row W _ 0 _ _ _ h).trans rfl, (cell_of_row W _ 1 _ _ _ h).trans rfl, frozen_of_row W _ 0 _ _ h, frozen_of_row W _ 1 _ _ h⟩
      have HK2 := Lib.hid hkey
      clear hb1 hs1 hkey
      go_wp2_with (first | (go_at_call 87; refine (off_any _ _ _ _).mono ?_; (first | rw [k1] | rw [k2]); rintro e w' ⟨rfl, rfl⟩) | (go_at_call 66; refine HRT.out.mono ?_; rintro e w2 ⟨rfl, hb2⟩; have H2 := Lib.hid hb2; obtain ⟨m0, m1, m2, m3⟩ := HK2.out _ (hb2.alloc hb2.size (.cells #[.int .i64 0, .int .i64 0] 49)); clear hb2))
      refine bodyPost_ret (v := .tuple #[.agg #[.int .i64 0, .int .i64 0], .int .i64 (fitErr c)]) (by simp [results, Try.results33, go_sem, m0, m1]) rfl ⟨rfl, ?_⟩
      have h1 := HB.out.trans (HD.out.1.mono (by simp; omega))
      have h2 := h1.trans ((H2.out.alloc H2.out.size (.cells #[.int .i64 0, .int .i64 0] 49)).mono h1.size)
      exact (h2.setCell (p := ⟨w.heap.size + 1, 0, none⟩) (Nat.le_succ _) _).setCell (p := ⟨w.heap.size + 1, 1, none⟩) (Nat.le_succ _) _
    · have e : growErr c p k = 4 := by unfold growErr; rw [if_pos q, if_neg q2]
      rw [e]
      have hcase : (inB p 0 100 = false) ∨ (inB p 0 100 = true ∧ inB k 0 20 = false) := by
        cases q3 : inB p 0 100 <;> cases q4 : inB k 0 20 <;> simp [q3, q4] at q2 ⊢
      clear e q hk q2
      rcases hcase with k1 | ⟨k1, k2⟩
      all_goals
        go_enter Try.func33, Try.ntmps33
        go_wp2_with fail
        refine HCH.out.mono ?_
        rintro e w1 ⟨rfl, hb1⟩
        have hs1 := (hb1.block (w.heap.size + 1) (by simp)).trans HS.out
        have m0 := (cell_of_row w1 _ 0 _ _ _ hs1).trans rfl
        have m1 := (cell_of_row w1 _ 1 _ _ _ hs1).trans rfl
        have m2 := frozen_of_row w1 _ 0 _ _ hs1
        have m3 := frozen_of_row w1 _ 1 _ _ hs1
        have HD := Lib.hid hb1
        clear hb1 hs1
        go_wp2_with (go_at_call 87; refine (off_any _ _ _ _).mono ?_; (first | rw [k1] | rw [k2]); rintro e w' ⟨rfl, rfl⟩)
        refine bodyPost_ret (v := .tuple #[.agg #[.int .i64 0, .int .i64 0], .int .i64 4]) (by simp [results, Try.results33, go_sem, m0, m1]) rfl ⟨rfl, ?_⟩
        have h1 := HB.out.trans (HD.out.mono (by simp; omega))
        exact (h1.setCell (p := ⟨w.heap.size + 1, 0, none⟩) (Nat.le_succ _) _).setCell (p := ⟨w.heap.size + 1, 1, none⟩) (Nat.le_succ _) _
  · have e : growErr c p k = checkC c := by unfold growErr; rw [if_neg q]
    rw [e]
    have hk1 : (checkC c == 0) = false := by simpa using q
    have hk2 : (checkC c != 0) = true := by simp [bne, hk1]
    clear hk q e
    go_enter Try.func33, Try.ntmps33
    go_wp2_with fail
    refine HCH.out.mono ?_
    rintro e w1 ⟨rfl, hb1⟩
    have hs1 := (hb1.block (w.heap.size + 1) (by simp)).trans HS.out
    have m0 := (cell_of_row w1 _ 0 _ _ _ hs1).trans rfl
    have m1 := (cell_of_row w1 _ 1 _ _ _ hs1).trans rfl
    have m2 := frozen_of_row w1 _ 0 _ _ hs1
    have m3 := frozen_of_row w1 _ 1 _ _ hs1
    have HD := Lib.hid hb1
    clear hb1 hs1
    go_wp2_with fail
    refine bodyPost_ret (v := .tuple #[.agg #[.int .i64 0, .int .i64 0], .int .i64 (checkC c)]) (by simp [results, Try.results33, go_sem, m0, m1]) rfl ⟨rfl, ?_⟩
    have h1 := HB.out.trans (HD.out.mono (by simp; omega))
    exact (h1.setCell (p := ⟨w.heap.size + 1, 0, none⟩) (Nat.le_succ _) _).setCell (p := ⟨w.heap.size + 1, 1, none⟩) (Nat.le_succ _) _
end Go.Proofs.Ytnhifinfjfpoiaa
