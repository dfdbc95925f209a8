/- Contract of the reference's Fitting. Contract of the reference's left. From which houses rats can come in the next night, bit by bit. The plain link: the reference's groups and sets against the program's needs and masks. The reference's Fitting tells what the program's fitting tells. How many more: the reference's 1000 against the program's 361. Who may still be there: the reference's stays against the program's left sets. What the reference's left tells, and where rats can be in the next night: the near houses as a list and as a set. -/
import Derived.Test.YtnhifinfjfpoiaaGreatK13
import Derived.Test.YtnhifinfjfpoiaaGreatK12
import Derived.Test.YtnhifinfjfpoiaaGreatK05
import Derived.Test.YtnhifinfjfpoiaaGreatK07
import Derived.Test.YtnhifinfjfpoiaaGreatK11
import Derived.Deep.AppendLies
namespace Go.Proofs.YtnhifinfjfpoiaaGreat
open Go.RowKit
set_option linter.unusedVariables false
set_option linter.unusedSimpArgs false

/-- What the reference's Fitting answers. -/
def rfit (c : Col) : Int := if checkC c = 0 then (if minG c.rooms (groupsC c) (pow2 c.rooms.length) < caughtR c then 7 else 0) else checkC c
theorem rfit_bad {c : Col} (h : checkC c ≠ 0) : rfit c = checkC c := by unfold rfit; rw [if_neg h]
theorem rfit_7 {c : Col} (h : checkC c = 0) (h2 : minG c.rooms (groupsC c) (pow2 c.rooms.length) < caughtR c) : rfit c = 7 := by unfold rfit; rw [if_pos h, if_pos h2]
theorem rfit_0 {c : Col} (h : checkC c = 0) (h2 : ¬ minG c.rooms (groupsC c) (pow2 c.rooms.length) < caughtR c) : rfit c = 0 := by unfold rfit; rw [if_pos h, if_neg h2]
abbrev BoxB (W0 : World) (p : Nat) (r t u n : Value) (W : World) : Prop :=
  W.cell? ⟨p, 0, none⟩ = some r ∧ W.cell? ⟨p, 1, none⟩ = some t ∧ W.cell? ⟨p, 2, none⟩ = some u ∧ W.cell? ⟨p, 3, none⟩ = some n ∧ Hid (Below W0.heap.size W0 W)
theorem BoxB.of {W0 W : World} {p : Nat} {r t u n : Value} (h : W0.heap[p]? = some (.cells #[r, t, u, n] 32 (0, 0))) (hb : Below W0.heap.size W0 W) : BoxB W0 p r t u n W := by
  obtain ⟨a, b, c, d⟩ := four_of (blk_on h hb)
  exact ⟨a, b, c, d, hb⟩

set_option maxRecDepth 100000 in
set_option maxHeartbeats 4000000 in
theorem rfitting_any (c : Col) (r t u n : Value) (w : World) (hc : ColAt w w.heap.size r t u n c) :
    Calls Tryz.prog 78 #[.agg #[r, t, u, n]] w fun e w' => e = .returned (.int .i64 (rfit c)) ∧ Below w.heap.size w w' := by
  have hBW : Below w.heap.size w (w.alloc (.cells #[r, t, u, n] 32)) := (Below.refl _ w).alloc (Nat.le_refl _) _
  have hcA := hc.on hBW
  have c0 : (w.alloc (.cells #[r, t, u, n] 32)).heap[w.heap.size]? = some (.cells #[r, t, u, n] 32 (0, 0)) := blk _ _ _ _ rfl
  obtain ⟨hr, htr, hu, hn⟩ := hc
  obtain ⟨ar, cr, rfl, _⟩ := hr.open
  obtain ⟨at_, ct, rfl, _⟩ := htr.open
  obtain ⟨au, cu, rfl, _⟩ := hu.open
  obtain ⟨an, cn, rfl, _⟩ := hn.open
  have HB := Lib.hid hBW; have HX := Lib.hid c0; have HC := Lib.hid hcA
  clear hr htr hu hn hBW hcA c0
  go_enter Tryz.func78, Tryz.ntmps78
  obtain ⟨W1, hW1⟩ : ∃ W1, (w.alloc (.cells #[.slice ar c.rooms.length cr, .slice at_ c.traps.length ct, .slice au c.runs.length cu, .slice an c.nights.length cn] 32)) = W1 := ⟨_, rfl⟩
  rw [hW1] at HB HX HC
  obtain ⟨q0, q1, q2, q3⟩ := four_of HX.out
  have HCK := Lib.hid (rcheck_any c _ _ _ _ W1 HC.out)
  by_cases hk : checkC c = 0
  · have HOK := Lib.hid (okCol_of hk)
    have HK := Lib.hid hk
    rw [hk] at HCK
    clear hk
    go_upto_region 4 with (first | (rw [hW1]; clear hW1; go_simp) | (go_at_call 61; refine HCK.out.mono ?_; rintro e w1 ⟨rfl, hb1⟩; have H1 := Lib.hid hb1; clear hb1))
    have hP : w1.drew.cell? ⟨w.heap.size, 0, none⟩ = some (.slice ar c.rooms.length cr) ∧ w1.drew.cell? ⟨w.heap.size, 1, none⟩ = some (.slice at_ c.traps.length ct) ∧ w1.drew.cell? ⟨w.heap.size, 2, none⟩ = some (.slice au c.runs.length cu) ∧ w1.drew.cell? ⟨w.heap.size, 3, none⟩ = some (.slice an c.nights.length cn) ∧ Hid (Below W1.heap.size W1 w1.drew) := BoxB.of HX.out H1.out.drew
    have HPQ : Hid (∀ W, Hid (Below W1.heap.size W1 W) → BoxB W1 w.heap.size (.slice ar c.rooms.length cr) (.slice at_ c.traps.length ct) (.slice au c.runs.length cu) (.slice an c.nights.length cn) W) := fun W h => BoxB.of HX.out h.out
    have HGR : Hid (∀ W, Hid (Below W1.heap.size W1 W) → Calls Tryz.prog 113 #[.agg #[.slice ar c.rooms.length cr, .slice at_ c.traps.length ct, .slice au c.runs.length cu, .slice an c.nights.length cn]] W fun e w' => ∃ a q, e = .returned (.slice a (groupsC c).length q) ∧ Hid (IsGroups w' w'.heap.size (.slice a (groupsC c).length q) (groupsC c)) ∧ Hid (Below W1.heap.size W1 w')) := fun W h => (groups_any c _ _ _ _ W (HC.out.on h.out) HOK.out).mono fun _ _ ⟨v, h1, h2, h3⟩ => by
      have h4 := groups_read HOK.out h2
      obtain ⟨a, q, e, _⟩ := h4.open
      subst e
      exact ⟨a, q, h1, h4, h.out.trans (h3.mono h.out.size)⟩
    have HRO : Hid (∀ W a q, Hid (Below W1.heap.size W1 W) → Hid (IsGroups W W.heap.size (.slice a (groupsC c).length q) (groupsC c)) → Calls Tryz.prog 114 #[.agg #[.slice ar c.rooms.length cr, .slice at_ c.traps.length ct, .slice au c.runs.length cu, .slice an c.nights.length cn], .slice ar c.rooms.length cr, .slice a (groupsC c).length q] W fun e w' => e = .returned (.int .i64 (minG c.rooms (groupsC c) (pow2 c.rooms.length))) ∧ Hid (Below W1.heap.size W1 w')) := fun W a q h hg => (room_any c _ _ _ _ _ _ _ _ W (HC.out.on h.out) HOK.out.houses.2 (HC.out.on h.out).1 hg.out (roomOk_of HOK.out)).mono fun _ _ ⟨h1, h2⟩ => ⟨h1, h.out.trans (h2.mono h.out.size)⟩
    have HCA : Hid (∀ W, Hid (Below W1.heap.size W1 W) → Calls Tryz.prog 108 #[.agg #[.slice ar c.rooms.length cr, .slice at_ c.traps.length ct, .slice au c.runs.length cu, .slice an c.nights.length cn]] W fun e w' => e = .returned (.int .i64 (caughtR c)) ∧ Hid (Below W1.heap.size W1 w')) := fun W h => (rcaught_any c _ _ _ _ W (HC.out.on h.out) HOK.out).mono fun _ _ ⟨h1, h2⟩ => ⟨h1, h.out.trans (h2.mono h.out.size)⟩
    clear q0 q1 q2 q3 HCK H1
    go_region_held3 (fun w' => w'.cell? ⟨w.heap.size, 0, none⟩ = some (.slice ar c.rooms.length cr) ∧ w'.cell? ⟨w.heap.size, 1, none⟩ = some (.slice at_ c.traps.length ct) ∧ w'.cell? ⟨w.heap.size, 2, none⟩ = some (.slice au c.runs.length cu) ∧ w'.cell? ⟨w.heap.size, 3, none⟩ = some (.slice an c.nights.length cn) ∧ Hid (Below W1.heap.size W1 w')) (first | with_reducible assumption | exact HPQ.out _ (by assumption) | fail) (first | (go_at_call 113; (with_reducible refine (HGR.out _ (by exact (by assumption : _ ∧ _ ∧ _ ∧ _ ∧ Hid _).2.2.2.2)).mono ?_); rintro e w5 ⟨ag, qg, rfl, hg5, hb5⟩) | (go_at_call 114; (with_reducible refine (HRO.out _ _ _ (by exact (by assumption : _ ∧ _ ∧ _ ∧ _ ∧ Hid _).2.2.2.2) hg5).mono ?_); rintro e w6 ⟨rfl, hb6⟩) | (go_at_call 108; (with_reducible refine (HCA.out _ (by exact (by assumption : _ ∧ _ ∧ _ ∧ _ ∧ Hid _).2.2.2.2)).mono ?_); rintro e w7 ⟨rfl, hb7⟩))
    have HF := Lib.hid (HB.out.trans (hb7.out.mono HB.out.size))
    by_cases hm : minG c.rooms (groupsC c) (pow2 c.rooms.length) < caughtR c
    · have HM := Lib.hid (rfit_7 HK.out hm)
      clear hP HPQ HGR HRO HCA hg5 hb5 hb6 hb7
      go_wp2_with fail
      go_ret
      exact ⟨by rw [HM.out]; rfl, HF.out⟩
    · have HM := Lib.hid (rfit_0 HK.out hm)
      clear hP HPQ HGR HRO HCA hg5 hb5 hb6 hb7
      go_wp2_with fail
      go_ret
      exact ⟨by rw [HM.out]; rfl, HF.out⟩
  · have HK := Lib.hid (rfit_bad hk)
    subst hW1
    clear q0 q1 q2 q3
    go_wp2_with (go_at_call 61; refine HCK.out.mono ?_; rintro e w1 ⟨rfl, hb1⟩; have H1 := Lib.hid hb1; clear hb1)
    go_ret
    exact ⟨by rw [HK.out]; rfl, HB.out.trans (H1.out.mono HB.out.size)⟩
end Go.Proofs.YtnhifinfjfpoiaaGreat

namespace Go.Proofs.YtnhifinfjfpoiaaGreat
open Go.RowKit
set_option linter.unusedVariables false
set_option linter.unusedSimpArgs false

theorem groups_of_row {w : World} {B : Nat} {v : Value} {gl : List (Int × List Bool)} {us : List Value} (h1 : w.ownsRow B 167 2 v gl.length (zipV gl us)) (hlen : gl.length ≤ 140737488355328) (h2 : ∀ j, j < gl.length → IsBools w w.heap.size (us.getD j (.slice none 0 0)) (nthG gl j).2) : IsGroups w w.heap.size v gl := by
  refine ⟨fun j => us.getD j (.slice none 0 0), ?_, h2⟩
  have hlt := h1.lt
  obtain ⟨_, h | ⟨g, cap, cur, rfl, hg, hc, hn, hm, hs, ht⟩⟩ := h1
  · obtain ⟨rfl, hn⟩ := h
    exact ⟨none, 0, by rw [hn], by omega, hlen, .inl hn⟩
  · refine ⟨some ⟨g, 0, none⟩, cap, rfl, hn, hlen, .inr ⟨g, 0, rfl, (hlt g rfl).2, fun j hj => ?_⟩⟩
    have h1 := cell_of_row w g (0 + j) _ _ _ hc
    refine h1.trans ?_
    have h2 : cur.toList[j]? = (zipV gl us)[j]? := by
      rw [← ht, List.getElem?_take, if_pos hj]
    rw [Nat.zero_add, ← Array.getElem?_toList, h2]
    exact zipTo_get gl us _ j hj
/-- A list of one's own, grown by one group whose list is only read, is a list that is read. -/
theorem grown_read {W w1 : World} {B : Nat} {v' sl u : Value} {gl : List (Int × List Bool)} {us : List Value} {x : Int} {L : List Bool} (hB : B ≤ W.heap.size) (h40 : gl.length ≤ 1000) (h6 : ∀ j, j < gl.length → (nthG gl j).2.length ≤ 1000) (h0 : us.length = gl.length)
    (h1 : W.ownsRow B 167 2 sl gl.length (zipV gl us)) (h2 : ∀ j, j < gl.length → W.ownsRow B 4 1 (us.getD j (.slice none 0 0)) (nthG gl j).2.length ((nthG gl j).2.map Value.bool))
    (hu : IsBools W B u L) (hown : w1.ownsRow B 167 2 v' (gl.length + 1) (zipV gl us ++ [.int .i64 x, u])) (hg : W.grownBy w1 sl.ownBlock) : IsGroups w1 w1.heap.size v' (gl ++ [(x, L)]) := by
  have hbel : Below B W w1 := below_grown (Below.refl _ _) hg (fun r hr => (h1.lt r hr).1) hB
  refine groups_of_row (us := us ++ [u]) (by rw [List.length_append, List.length_singleton, zipV_snoc gl us (x, L) u h0]; exact hown) (by simp; omega) fun j hj => ?_
  by_cases hl : j < gl.length
  · have e1 : nthG (gl ++ [(x, L)]) j = nthG gl j := by unfold nthG; rw [List.getD_eq_getElem?_getD, List.getD_eq_getElem?_getD, List.getElem?_append_left (by omega)]
    have e2 : (us ++ [u]).getD j (.slice none 0 0) = us.getD j (.slice none 0 0) := by rw [List.getD_eq_getElem?_getD, List.getD_eq_getElem?_getD, List.getElem?_append_left (by omega)]
    rw [e1, e2]
    exact bools_of_owns (owns_grown (h2 j hl) hg (fun g cs hc => not_own h1 hc (by decide))) (by have := h6 j hl; omega)
  · obtain rfl : j = gl.length := by simp at hj; omega
    have e1 : nthG (gl ++ [(x, L)]) gl.length = (x, L) := by unfold nthG; simp
    have e2 : (us ++ [u]).getD gl.length (.slice none 0 0) = u := by rw [← h0, List.getD_eq_getElem?_getD, List.getElem?_append_right (Nat.le_refl _)]; simp
    rw [e1, e2]
    exact (SlAt.below hu hbel (Nat.le_refl _)).mono (Nat.le_trans hB hbel.size)

theorem BoxB.alloc {W1 W : World} {p : Nat} {r t u n : Value} {o : Obj} (H : Hid (∀ W, Hid (Below W1.heap.size W1 W) → BoxB W1 p r t u n W)) (h : Hid (Below W1.heap.size W1 W)) : BoxB W1 p r t u n (W.alloc o) :=
  H.out _ (h.out.alloc h.out.size _)
theorem roomOk_more {c : Col} (ok : OkCol c) {l : List Bool} (hl : l.length = c.rooms.length) : RoomOk c.rooms (groupsC c ++ [(1000, l)]) := by
  have o2 := ok.houses.2
  have rok := roomOk_of ok
  have e1 : ∀ i, i < (groupsC c).length → nthG (groupsC c ++ [(1000, l)]) i = nthG (groupsC c) i := fun i hi => by unfold nthG; rw [List.getD_eq_getElem?_getD, List.getD_eq_getElem?_getD, List.getElem?_append_left hi]
  have e2 : nthG (groupsC c ++ [(1000, l)]) (groupsC c).length = (1000, l) := by unfold nthG; simp
  refine ⟨rok.rl6, rok.rooms, ?_, ?_, ?_⟩
  · have h1 : c.nights.length * c.rooms.length ≤ 6 * 6 := Nat.mul_le_mul ok.nights ok.houses.2
    rw [List.length_append, groupsC_len, List.length_singleton]; omega
  · intro i hi
    by_cases q : i < (groupsC c).length
    · rw [e1 i q]; exact rok.rats i q
    · obtain rfl : i = (groupsC c).length := by simp at hi; omega
      rw [e2]; show (0 : Int) ≤ 1000 ∧ (1000 : Int) ≤ 1000; omega
  · intro i hi
    by_cases q : i < (groupsC c).length
    · rw [e1 i q]; exact rok.from6 i q
    · obtain rfl : i = (groupsC c).length := by simp at hi; omega
      rw [e2]; show l.length ≤ 6; omega
theorem minG_bounds {rl : List Int} {gl : List (Int × List Bool)} (ok : RoomOk rl gl) : ∀ K, 0 ≤ minG rl gl K ∧ minG rl gl K ≤ 1000000
  | 0 => by simp [minG]
  | K + 1 => by
    have h1 := minG_bounds ok K
    have h2 := (ok.roomsB K (Nat.le_refl _)).1
    have h3 := (ok.restB K (Nat.le_refl _)).1
    have h4 : 0 ≤ capG rl gl K := by unfold capG; omega
    unfold minG
    split <;> omega
/-- How many can be left that have come from some houses. -/
def leftV (c : Col) (l : List Bool) : Int := minG c.rooms (groupsC c ++ [(1000, l)]) (pow2 c.rooms.length) - caughtR c
theorem leftV_bounds {c : Col} (ok : OkCol c) {l : List Bool} (hl : l.length = c.rooms.length) : wrap64 (minG c.rooms (groupsC c ++ [(1000, l)]) (pow2 c.rooms.length) - caughtR c) = leftV c l ∧ I64 (leftV c l) := by
  have h1 := minG_bounds (roomOk_more ok hl) (pow2 c.rooms.length)
  have h2 := caughtTo_bound ok (Nat.le_refl c.nights.length)
  have h3 := ok.nights
  unfold leftV caughtR
  unfold caughtR at *
  unfold I64 wrap64
  omega

theorem left_grown {c : Col} (ok : OkCol c) {W1 W w6 : World} {sl u v' : Value} {us : List Value} {l : List Bool} (hb : Hid (Below W1.heap.size W1 W)) (hf : IsBools W1 W1.heap.size u l)
    (h : us.length = (groupsC c).length ∧ W.ownsRow W1.heap.size 167 2 sl (groupsC c).length (zipV (groupsC c) us) ∧ ∀ j, j < (groupsC c).length → W.ownsRow W1.heap.size 4 1 (us.getD j (.slice none 0 0)) (nthG (groupsC c) j).2.length ((nthG (groupsC c) j).2.map Value.bool))
    (hown : w6.ownsRow W1.heap.size 167 2 v' ((groupsC c).length + 1) (zipV (groupsC c) us ++ [.int .i64 1000, u])) (hg : W.grownBy w6 sl.ownBlock) :
    Hid (IsGroups w6 w6.heap.size v' (groupsC c ++ [(1000, l)])) ∧ Hid (Below W1.heap.size W1 w6) := by
  have rok := roomOk_of ok
  have h40 := rok.gl40
  exact ⟨grown_read hb.out.size (by omega) (fun j hj => by have := rok.from6 j hj; omega) h.1 h.2.1 h.2.2 (SlAt.below hf hb.out (Nat.le_refl _)) hown hg, below_grown hb.out hg (fun r hr => (h.2.1.lt r hr).1) hb.out.size⟩
theorem owns3_alloc {W : World} {B g : Nat} {sl : Value} {us : List Value} {gl : List (Int × List Bool)} (o : Obj)
    (h : us.length = gl.length ∧ W.ownsRow B g 2 sl gl.length (zipV gl us) ∧ ∀ j, j < gl.length → W.ownsRow B 4 1 (us.getD j (.slice none 0 0)) (nthG gl j).2.length ((nthG gl j).2.map Value.bool)) :
    us.length = gl.length ∧ (W.alloc o).ownsRow B g 2 sl gl.length (zipV gl us) ∧ ∀ j, j < gl.length → (W.alloc o).ownsRow B 4 1 (us.getD j (.slice none 0 0)) (nthG gl j).2.length ((nthG gl j).2.map Value.bool) :=
  ⟨h.1, h.2.1.alloc _, fun j hj => (h.2.2 j hj).alloc _⟩

set_option maxRecDepth 100000 in
set_option maxHeartbeats 4000000 in
theorem rleft_any (c : Col) (r t u n fv : Value) (l : List Bool) (w : World) (hc : ColAt w w.heap.size r t u n c) (ok : OkCol c) (hl : l.length = c.rooms.length) (hf : IsBools w w.heap.size fv l) :
    Calls Tryz.prog 109 #[.agg #[r, t, u, n], fv] w fun e w' => e = .returned (.int .i64 (leftV c l)) ∧ Below w.heap.size w w' := by
  have hBW : Below w.heap.size w (w.alloc (.cells #[r, t, u, n] 32)) := (Below.refl _ w).alloc (Nat.le_refl _) _
  have hcA := hc.on hBW
  have hfA := hf.on hBW
  have c0 : (w.alloc (.cells #[r, t, u, n] 32)).heap[w.heap.size]? = some (.cells #[r, t, u, n] 32 (0, 0)) := blk _ _ _ _ rfl
  obtain ⟨hr, htr, hu, hn⟩ := hc
  obtain ⟨ar, cr, rfl, _⟩ := hr.open
  obtain ⟨at_, ct, rfl, _⟩ := htr.open
  obtain ⟨au, cu, rfl, _⟩ := hu.open
  obtain ⟨an, cn, rfl, _⟩ := hn.open
  obtain ⟨af, cf, rfl, _⟩ := hf.open
  have HB := Lib.hid hBW; have HX := Lib.hid c0; have HC := Lib.hid hcA; have HF := Lib.hid hfA; have HOK := Lib.hid ok; have HL := Lib.hid hl
  have hlt : w.heap.size < (w.alloc (.cells #[.slice ar c.rooms.length cr, .slice at_ c.traps.length ct, .slice au c.runs.length cu, .slice an c.nights.length cn] 32)).heap.size := by simp
  have HLT := Lib.hid hlt
  clear hr htr hu hn hf hBW hcA c0 hfA ok hl hlt
  go_enter Tryz.func109, Tryz.ntmps109
  obtain ⟨W1, hW1⟩ : ∃ W1, (w.alloc (.cells #[.slice ar c.rooms.length cr, .slice at_ c.traps.length ct, .slice au c.runs.length cu, .slice an c.nights.length cn] 32)) = W1 := ⟨_, rfl⟩
  rw [hW1] at HB HX HC HF HLT
  go_upto_region 1 with (fail)
  clear hW1
  have hx1 := HX.out
  have HPQ : Hid (∀ W, Hid (Below W1.heap.size W1 W) → BoxB W1 w.heap.size (.slice ar c.rooms.length cr) (.slice at_ c.traps.length ct) (.slice au c.runs.length cu) (.slice an c.nights.length cn) W) := fun W h => BoxB.of hx1 h.out
  have hP : W1.drew.cell? ⟨w.heap.size, 0, none⟩ = some (.slice ar c.rooms.length cr) ∧ W1.drew.cell? ⟨w.heap.size, 1, none⟩ = some (.slice at_ c.traps.length ct) ∧ W1.drew.cell? ⟨w.heap.size, 2, none⟩ = some (.slice au c.runs.length cu) ∧ W1.drew.cell? ⟨w.heap.size, 3, none⟩ = some (.slice an c.nights.length cn) ∧ Hid (Below W1.heap.size W1 W1.drew) := BoxB.of hx1 (Below.refl _ _).drew
  have HGR : Hid (∀ W, Hid (Below W1.heap.size W1 W) → Calls Tryz.prog 113 #[.agg #[.slice ar c.rooms.length cr, .slice at_ c.traps.length ct, .slice au c.runs.length cu, .slice an c.nights.length cn]] W fun e w' => ∃ a q, e = .returned (.slice a (groupsC c).length q) ∧ Hid (OwnG w' W1.heap.size (.slice a (groupsC c).length q) (groupsC c)) ∧ Hid (Below W1.heap.size W1 w') ∧ Hid (Below W.heap.size W w')) := fun W h => (groups_any c _ _ _ _ W (HC.out.on h.out) HOK.out).mono fun _ w' ⟨v, h1, h2, h3⟩ => by
    obtain ⟨us, u0, u1, u2⟩ := h2
    obtain ⟨a, q, rfl⟩ := owns_slice u1
    exact ⟨a, q, h1, OwnG.base ⟨us, u0, u1, u2⟩ h.out.size, h.out.trans (h3.mono h.out.size), h3⟩
  have HRO : Hid (∀ W a q, Hid (Below W1.heap.size W1 W) → Hid (IsGroups W W.heap.size (.slice a ((groupsC c).length + 1) q) (groupsC c ++ [(1000, l)])) → Calls Tryz.prog 114 #[.agg #[.slice ar c.rooms.length cr, .slice at_ c.traps.length ct, .slice au c.runs.length cu, .slice an c.nights.length cn], .slice ar c.rooms.length cr, .slice a ((groupsC c).length + 1) q] W fun e w' => e = .returned (.int .i64 (minG c.rooms (groupsC c ++ [(1000, l)]) (pow2 c.rooms.length))) ∧ Hid (Below W1.heap.size W1 w')) := fun W a q h hg => (room_any c _ _ _ _ _ _ _ _ W (HC.out.on h.out) HOK.out.houses.2 (HC.out.on h.out).1 hg.out (roomOk_more HOK.out HL.out)).mono fun _ _ ⟨h1, h2⟩ => ⟨h1, h.out.trans (h2.mono h.out.size)⟩
  have HCA : Hid (∀ W, Hid (Below W1.heap.size W1 W) → Calls Tryz.prog 108 #[.agg #[.slice ar c.rooms.length cr, .slice at_ c.traps.length ct, .slice au c.runs.length cu, .slice an c.nights.length cn]] W fun e w' => e = .returned (.int .i64 (caughtR c)) ∧ Hid (Below W1.heap.size W1 w')) := fun W h => (rcaught_any c _ _ _ _ W (HC.out.on h.out) HOK.out).mono fun _ _ ⟨h1, h2⟩ => ⟨h1, h.out.trans (h2.mono h.out.size)⟩
  obtain ⟨i0, hi, hz0, hz1, hz2⟩ := info_parts infoGroup
  have hgl := (roomOk_of HOK.out).gl40
  clear hx1
  go_region_held3 (fun w' => w'.cell? ⟨w.heap.size, 0, none⟩ = some (.slice ar c.rooms.length cr) ∧ w'.cell? ⟨w.heap.size, 1, none⟩ = some (.slice at_ c.traps.length ct) ∧ w'.cell? ⟨w.heap.size, 2, none⟩ = some (.slice au c.runs.length cu) ∧ w'.cell? ⟨w.heap.size, 3, none⟩ = some (.slice an c.nights.length cn) ∧ Hid (Below W1.heap.size W1 w')) (first | with_reducible assumption | exact HPQ.out _ (by assumption) | exact BoxB.alloc HPQ (by exact (by assumption : _ ∧ _ ∧ _ ∧ _ ∧ Hid _).2.2.2.2) | fail) (first | (go_at_call 113; (with_reducible refine (HGR.out _ (by exact (by assumption : _ ∧ _ ∧ _ ∧ _ ∧ Hid _).2.2.2.2)).mono ?_); rintro e w5 ⟨ag, qg, rfl, hg5, hb5, hy5⟩; obtain ⟨us, hus⟩ := hg5.out; have HU := Lib.hid hus; have hz5 := hb5.out.size; clear hus hg5) | (go_at_call 114; (with_reducible refine (HRO.out _ _ _ (by exact (by assumption : _ ∧ _ ∧ _ ∧ _ ∧ Hid _).2.2.2.2) hg6).mono ?_); rintro e w7 ⟨rfl, hb7⟩) | (refine step_append_lies _ (by rfl) _ _ _ (by rfl) W1.heap.size 167 i0 (.agg #[.int .i64 0, .slice none 0 0]) 2 32 Tryz.underlying164 hi hz0 hz1 hz2 rfl (by decide) (.slice ag (groupsC c).length qg) (groupsC c).length (zipV (groupsC c) us) (by rfl) (HU.out.2.1.alloc _) ⟨w5.heap.size, 0, none⟩ 1 1 [.int .i64 1000, .slice af l.length cf] (by rfl) rfl (World.news_of_block (heap_alloc_new _ _)) (fun y hy => by simp at hy; rcases hy with rfl | rfl <;> rfl) (by decide) (by unfold maxLen; omega) (by omega) (by simp; omega) (w5.heap.size + 1) (by simp) ?_; intro g6 cap6 w6 hown6 hgrow6 _ _; obtain ⟨hg6, hb6⟩ := left_grown HOK.out (hb5.out.alloc hz5 _) HF.out (owns3_alloc _ HU.out) hown6 hgrow6; clear hown6 hgrow6) | (refine step_append_lies _ (by rfl) _ _ _ (by rfl) W1.heap.size 167 i0 (.agg #[.int .i64 0, .slice none 0 0]) 2 32 Tryz.underlying164 hi hz0 hz1 hz2 rfl (by decide) (.slice ag (groupsC c).length qg) (groupsC c).length (zipV (groupsC c) us) (by rfl) HU.out.2.1 ⟨W1.heap.size, 0, none⟩ 1 1 [.int .i64 1000, .slice af l.length cf] (by rfl) rfl (World.news_of_block (cs := #[.int .i64 1000, .slice af l.length cf]) (t := 167) (fr := (0, 0)) (by first | exact blk_on (blkD _ _ _ _ rfl) hy5.out | exact blk_on (heap_alloc_new _ _) hy5.out)) (fun y hy => by simp at hy; rcases hy with rfl | rfl <;> rfl) (by decide) (by unfold maxLen; omega) (by omega) hz5 w5.heap.size rfl ?_; intro g6 cap6 w6 hown6 hgrow6 _ _; obtain ⟨hg6, hb6⟩ := left_grown HOK.out hb5 HF.out HU.out hown6 hgrow6; clear hown6 hgrow6) | (go_at_call 108; (with_reducible refine (HCA.out _ (by exact (by assumption : _ ∧ _ ∧ _ ∧ _ ∧ Hid _).2.2.2.2)).mono ?_); rintro e w8 ⟨rfl, hb8⟩))
  all_goals
    have HLV := Lib.hid (leftV_bounds HOK.out HL.out).1
    have HF8 := Lib.hid (HB.out.trans (hb8.out.mono HB.out.size))
    clear hP HPQ HGR HRO HCA hb5 hb6 hb7 hb8 hg6 hy5 HU hz5 hi hz0 hz1 hz2
    go_wp2_with fail
    go_ret
    exact ⟨ret_int ((IntKind.wrap_i64 _).trans (by have := HLV.out; unfold wrap64 at this; exact this)), HF8.out⟩
end Go.Proofs.YtnhifinfjfpoiaaGreat

namespace Go.Proofs.YtnhifinfjfpoiaaGreat
open Go.RowKit
set_option linter.unusedVariables false

theorem needAcc_bit (c : Col) (f : Nat) (l : List Nat) : (needAcc c l).testBit f = true ↔ ∃ o, o ∈ l ∧ (leftC c o).testBit f = true := by
  have key : ∀ (l : List Nat) (a : Nat), (l.foldl (fun acc o => orN acc (leftC c o)) a).testBit f = true ↔ a.testBit f = true ∨ ∃ o, o ∈ l ∧ (leftC c o).testBit f = true := by
    intro l
    induction l with
    | nil => intro a; simp
    | cons x l ih =>
      intro a
      rw [List.foldl_cons, ih, orN_bit, Bool.or_eq_true]
      constructor
      · rintro ((h | h) | ⟨o, h1, h2⟩)
        · exact .inl h
        · exact .inr ⟨x, by simp, h⟩
        · exact .inr ⟨o, by simp [h1], h2⟩
      · rintro (h | ⟨o, h1, h2⟩)
        · exact .inl (.inl h)
        · rcases List.mem_cons.1 h1 with rfl | h1
          · exact .inl (.inr h2)
          · exact .inr ⟨o, h1, h2⟩
  unfold needAcc
  rw [key]; simp
end Go.Proofs.YtnhifinfjfpoiaaGreat

namespace Go.Proofs.YtnhifinfjfpoiaaGreat
open Go.RowKit
set_option linter.unusedVariables false

def LikeG (gl : List (Int × List Bool)) (nl : List (Int × Int)) : Prop :=
  gl.length = nl.length ∧ ∀ i, i < gl.length → (nthG gl i).1 = rats nl i ∧ ∀ s : Nat, withinB (nthG gl i).2 s = subB (frm nl i) s.testBit
theorem nthG_left {gl : List (Int × List Bool)} {x : Int × List Bool} {i : Nat} (h : i < gl.length) : nthG (gl ++ [x]) i = nthG gl i := by
  unfold nthG; rw [List.getD_eq_getElem?_getD, List.getD_eq_getElem?_getD, List.getElem?_append_left h]
theorem nthG_last (gl : List (Int × List Bool)) (x : Int × List Bool) : nthG (gl ++ [x]) gl.length = x := by unfold nthG; simp
theorem nthP_left {nl : List (Int × Int)} {x : Int × Int} {i : Nat} (h : i < nl.length) : nthP (nl ++ [x]) i = nthP nl i := by
  unfold nthP; rw [List.getD_eq_getElem?_getD, List.getD_eq_getElem?_getD, List.getElem?_append_left h]
theorem nthP_last (nl : List (Int × Int)) (x : Int × Int) : nthP (nl ++ [x]) nl.length = x := by unfold nthP; simp
theorem LikeG.nil : LikeG [] [] := ⟨rfl, fun i h => absurd h (Nat.not_lt_zero _)⟩
theorem LikeG.snoc {gl : List (Int × List Bool)} {nl : List (Int × Int)} (h : LikeG gl nl) {x : Int × List Bool} {y : Int × Int} (h1 : x.1 = y.1) (h2 : ∀ s : Nat, withinB x.2 s = subB y.2.toNat s.testBit) : LikeG (gl ++ [x]) (nl ++ [y]) := by
  refine ⟨by simp [h.1], fun i hi => ?_⟩
  by_cases q : i < gl.length
  · unfold rats frm
    rw [nthG_left q, nthP_left (by have := h.1; omega)]
    exact h.2 i q
  · obtain rfl : i = gl.length := by simp at hi; omega
    unfold rats frm
    rw [nthG_last, h.1, nthP_last]
    exact ⟨h1, h2⟩
theorem nthB_from {c : Col} {n h f : Nat} (hf : f < c.rooms.length) : nthB (fromL c n h) f = comeB c f n h := by
  rw [nthB_eq (by rw [fromL_len]; exact hf)]; simp [fromL]
theorem within_from {c : Col} (ok : OkCol c) {n h : Nat} (hn : n ≤ c.nights.length) (hh : h < c.rooms.length) (s : Nat) : withinB (fromL c n h) s = subB (org c n h) s.testBit := by
  rw [Bool.eq_iff_iff, subB_iff]
  unfold withinB SubS
  rw [allB_iff, fromL_len]
  constructor
  · intro H f _ hb
    have hf := org_only ok n h f hb
    have := H f hf
    rw [nthB_from hf, ← org_come ok n h f hh hf hn, hb] at this
    simpa using this
  · intro H f hf
    rw [nthB_from hf, ← org_come ok n h f hh hf hn]
    cases hb : (org c n h).testBit f
    · rfl
    · have := H f (by have := ok.houses.2; omega) hb
      simp [this]
theorem like_row {c : Col} (ok : OkCol c) {gl : List (Int × List Bool)} {nl : List (Int × Int)} (h : LikeG gl nl) {n : Nat} (hn : n ≤ c.nights.length) : ∀ j, j ≤ c.rooms.length → LikeG (gl ++ groupRow c n j) (nl ++ rowTo c n j)
  | 0, _ => by simpa [groupRow, rowTo] using h
  | j + 1, hj => by
    rw [groupRow_succ, rowTo_succ, ← List.append_assoc, ← List.append_assoc]
    refine (like_row ok h hn j (by omega)).snoc rfl fun s => ?_
    exact within_from ok hn (by omega) s
theorem like_up {c : Col} (ok : OkCol c) : ∀ n, n ≤ c.nights.length → LikeG (groupsUp c n) (needsUp c n)
  | 0, _ => LikeG.nil
  | n + 1, hn => by
    rw [groupsUp_succ, needsUp_succ]
    exact like_row ok (like_up ok n (by omega)) (by omega) _ (Nat.le_refl _)
theorem like_all {c : Col} (ok : OkCol c) : LikeG (groupsC c) (needsC c) := like_up ok _ (Nat.le_refl _)

theorem LikeG.rest {gl : List (Int × List Bool)} {nl : List (Int × Int)} (h : LikeG gl nl) (s : Nat) : restUp gl s gl.length = elsewhere nl s.testBit := by
  unfold restUp elsewhere
  rw [← h.1]
  exact sumN_congr fun i hi => by rw [(h.2 i hi).1, (h.2 i hi).2 s]
theorem nth_over {xs : List Int} {h : Nat} (q : ¬ h < xs.length) : nth xs h = 0 := by unfold nth; rw [List.getD_eq_getElem?_getD, List.getElem?_eq_none (by omega)]; rfl
theorem rooms_six (rl : List Int) (s : Nat) : ∀ k, rl.length + k ≤ 6 → sumN (fun h => if s.testBit h = true then nth rl h else 0) (rl.length + k) = roomsUp rl s rl.length
  | 0, _ => rfl
  | k + 1, hk => by
    rw [← Nat.add_assoc, sumN_succ, rooms_six rl s k (by omega), nth_over (by omega)]
    simp
theorem roomsUp_of (rl : List Int) (s : Nat) (h : rl.length ≤ 6) : roomsUp rl s rl.length = roomsOf (nth rl) s.testBit := by
  have := rooms_six rl s (6 - rl.length) (by omega)
  rw [show rl.length + (6 - rl.length) = 6 by omega] at this
  exact this.symm
theorem LikeG.cap {gl : List (Int × List Bool)} {nl : List (Int × Int)} (h : LikeG gl nl) {rl : List Int} (h6 : rl.length ≤ 6) (s : Nat) : capG rl gl s = capM nl (nth rl) s := by
  unfold capG capM
  rw [h.rest, roomsUp_of rl s h6]
/-- Masks beyond the houses change nothing. -/
theorem cap_mod {nl : List (Int × Int)} {rl : List Int} {n : Nat} (hn : rl.length = n) (hf : ∀ o, o < nl.length → ∀ h, (frm nl o).testBit h = true → h < n) (m : Nat) : capM nl (nth rl) (m % 2 ^ n) = capM nl (nth rl) m := by
  unfold capM roomsOf elsewhere
  congr 1
  · refine sumN_congr fun h _ => ?_
    rw [Nat.testBit_mod_two_pow]
    by_cases q : h < n
    · simp [q]
    · rw [nth_over (xs := rl) (by omega)]; simp
  · refine sumN_congr fun o ho => ?_
    have e : subB (frm nl o) (m % 2 ^ n).testBit = subB (frm nl o) m.testBit := by
      rw [Bool.eq_iff_iff, subB_iff, subB_iff]
      constructor
      · intro H h hh hb
        have := H h hh hb
        rw [Nat.testBit_mod_two_pow] at this
        simp at this; exact this.2
      · intro H h hh hb
        rw [Nat.testBit_mod_two_pow, H h hh hb]
        simp [hf o ho h hb]
    rw [e]
theorem minG_le (rl : List Int) (gl : List (Int × List Bool)) : ∀ K s, s < K → minG rl gl K ≤ capG rl gl s
  | 0, s, h => by omega
  | K + 1, s, h => by
    unfold minG
    by_cases q : s < K
    · have := minG_le rl gl K s q
      split <;> omega
    · obtain rfl : s = K := by omega
      split <;> omega
theorem minG_mem (rl : List Int) (gl : List (Int × List Bool)) : ∀ K, minG rl gl K = 1000000 ∨ ∃ s, s < K ∧ minG rl gl K = capG rl gl s
  | 0 => .inl rfl
  | K + 1 => by
    unfold minG
    split
    · exact .inr ⟨K, by omega, rfl⟩
    · rcases minG_mem rl gl K with h | ⟨s, h1, h2⟩
      · exact .inl h
      · exact .inr ⟨s, by omega, h2⟩
theorem min_cut {gl : List (Int × List Bool)} {nl : List (Int × Int)} (h : LikeG gl nl) {rl : List Int} (ok : RoomOk rl gl) (hf : ∀ o, o < nl.length → ∀ h, (frm nl o).testBit h = true → h < rl.length) : minG rl gl (pow2 rl.length) = cutC nl (nth rl) := by
  have h6 := ok.rl6
  apply Int.le_antisymm
  · obtain ⟨m, hm, e⟩ := cut_mem nl (nth rl)
    have e2 : cutC nl (nth rl) = capM nl (nth rl) m := e
    rw [e2, ← cap_mod rfl hf m, ← h.cap h6]
    exact minG_le _ _ _ _ (Nat.mod_lt _ (Nat.two_pow_pos _))
  · rcases minG_mem rl gl (pow2 rl.length) with e | ⟨s, hs, e⟩
    · have h1 := minTo_le nl (nth rl) 63 0 (by omega)
      rw [← h.cap h6] at h1
      have h2 := (ok.roomsB 0 (Nat.le_refl _)).2
      have h3 := (ok.restB 0 (Nat.le_refl _)).2
      have h4 := ok.gl40
      unfold capG at h1
      rw [e]
      show minTo nl (nth rl) 63 ≤ 1000000
      omega
    · have := pow2_le h6
      rw [e, h.cap h6]
      exact minTo_le nl (nth rl) 63 s (by omega)
theorem needs_mem {c : Col} {x : Int × Int} (h : x ∈ needsC c) : ∃ n j, n < c.nights.length ∧ j < c.rooms.length ∧ x = (nth (nthR c.nights n) j, (org c n j : Int)) := by
  simp only [needsC, needsUp, needRow, List.mem_flatMap, List.mem_map, List.mem_range] at h
  obtain ⟨n, hn, j, hj, rfl⟩ := h
  exact ⟨n, j, hn, hj, rfl⟩
theorem nthP_in {nl : List (Int × Int)} {i : Nat} (h : i < nl.length) : nthP nl i ∈ nl := by
  unfold nthP; rw [List.getD_eq_getElem?_getD, List.getElem?_eq_getElem h]; exact List.getElem_mem h
theorem needs_in {c : Col} (ok : OkCol c) : ∀ o, o < (needsC c).length → ∀ h, (frm (needsC c) o).testBit h = true → h < c.rooms.length := by
  intro o ho h hb
  obtain ⟨n, j, hn, hj, e⟩ := needs_mem (nthP_in ho)
  unfold frm at hb
  rw [e] at hb
  exact org_only ok n j h hb
theorem min_needs {c : Col} (ok : OkCol c) : minG c.rooms (groupsC c) (pow2 c.rooms.length) = cutC (needsC c) (nth c.rooms) :=
  min_cut (like_all ok) (roomOk_of ok) (needs_in ok)
theorem tot_snoc (nl : List (Int × Int)) (x : Int × Int) : sumN (rats (nl ++ [x])) (nl ++ [x]).length = sumN (rats nl) nl.length + x.1 := by
  rw [List.length_append, List.length_singleton, sumN_succ]
  unfold rats
  rw [nthP_last]
  congr 1
  exact sumN_congr fun i hi => by rw [nthP_left hi]
theorem tot_row (c : Col) (nl : List (Int × Int)) (n : Nat) : ∀ j, sumN (rats (nl ++ rowTo c n j)) (nl ++ rowTo c n j).length = sumN (rats nl) nl.length + caughtRow c n j
  | 0 => by simp [rowTo, caughtRow, sumN]
  | j + 1 => by
    rw [rowTo_succ, ← List.append_assoc, tot_snoc, tot_row c nl n j]
    unfold caughtRow
    rw [sumN_succ, Int.add_assoc]
theorem tot_up (c : Col) : ∀ n, sumN (rats (needsUp c n)) (needsUp c n).length = caughtTo c n
  | 0 => rfl
  | n + 1 => by
    rw [needsUp_succ]
    refine (tot_row c (needsUp c n) n c.rooms.length).trans ?_
    rw [tot_up c n]
    rfl
theorem tot_all (c : Col) : totC c = caughtR c := tot_up c _
end Go.Proofs.YtnhifinfjfpoiaaGreat

namespace Go.Proofs.YtnhifinfjfpoiaaGreat
open Go.RowKit

theorem rfit_is (c : Col) : rfit c = fitErr c := by
  unfold rfit
  by_cases h : checkC c = 0
  · rw [if_pos h, fit_err (okCol_of h) h, min_needs (okCol_of h), tot_all]
  · rw [if_neg h]
    unfold fitErr
    rw [if_neg h]
end Go.Proofs.YtnhifinfjfpoiaaGreat

namespace Go.Proofs.YtnhifinfjfpoiaaGreat
open Go.RowKit

/-- A list of marks and a mask that say the same. -/
def MaskOf (l : List Bool) (f : Nat) : Prop := ∀ h, f.testBit h = true ↔ h < l.length ∧ nthB l h = true
theorem MaskOf.within {l : List Bool} {f : Nat} (h : MaskOf l f) (h6 : l.length ≤ 6) (s : Nat) : withinB l s = subB f s.testBit := by
  rw [Bool.eq_iff_iff, subB_iff]
  unfold withinB SubS
  rw [allB_iff]
  constructor
  · intro H k _ hb
    have hk := (h k).1 hb
    have := H k hk.1
    rw [hk.2] at this
    simpa using this
  · intro H k hk
    cases hb : nthB l k
    · rfl
    · have := H k (by omega) ((h k).2 ⟨hk, hb⟩)
      simp [this]
theorem more_is {c : Col} (ok : OkCol c) {l : List Bool} {f : Nat} (hl : l.length = c.rooms.length) (hm : MaskOf l f) : minG c.rooms (groupsC c ++ [(1000, l)]) (pow2 c.rooms.length) = moreC c f := by
  have o2 := ok.houses.2
  have rok := roomOk_of ok
  have hlen := rok.gl40
  have hk : RoomOk c.rooms (groupsC c ++ [(1000, l)]) := by
    refine ⟨rok.rl6, rok.rooms, ?_, ?_, ?_⟩
    · have h1 : c.nights.length * c.rooms.length ≤ 6 * 6 := Nat.mul_le_mul ok.nights ok.houses.2
      rw [List.length_append, groupsC_len, List.length_singleton]; omega
    · intro i hi
      by_cases q : i < (groupsC c).length
      · rw [nthG_left q]; exact rok.rats i q
      · obtain rfl : i = (groupsC c).length := by simp at hi; omega
        rw [nthG_last]; show (0 : Int) ≤ 1000 ∧ (1000 : Int) ≤ 1000; omega
    · intro i hi
      by_cases q : i < (groupsC c).length
      · rw [nthG_left q]; exact rok.from6 i q
      · obtain rfl : i = (groupsC c).length := by simp at hi; omega
        rw [nthG_last]; show l.length ≤ 6; omega
  have hlike : LikeG (groupsC c ++ [(1000, l)]) (needsC c ++ [(1000, (f : Int))]) := (like_all ok).snoc rfl fun s => hm.within (by omega) s
  rw [min_cut hlike hk ?_]
  · have hs := (rooms_sum ok).2
    exact cut_many (needsC c) (nth c.rooms) f (needs_nonneg ok) (fun h hh => (ok.rooms6 h hh).1) (by omega) (by omega)
  · intro o ho h hb
    by_cases q : o < (needsC c).length
    · unfold frm at hb; rw [nthP_left q] at hb; exact needs_in ok o q h hb
    · obtain rfl : o = (needsC c).length := by simp at ho; omega
      unfold frm at hb
      rw [nthP_last] at hb
      have := ((hm h).1 hb).1
      omega
end Go.Proofs.YtnhifinfjfpoiaaGreat

namespace Go.Proofs.YtnhifinfjfpoiaaGreat
open Go.RowKit

theorem stays_get {c : Col} {inp : List Bool} {f : Nat} (hf : f < c.rooms.length) : nthB (staysL c inp) f = staysB c inp f := by
  rw [nthB_eq (by rw [staysL_len]; exact hf)]; simp [staysL]
theorem stays_iff {c : Col} {inp : List Bool} {f : Nat} : staysB c inp f = true ↔ ∃ h, h < c.rooms.length ∧ stayB c f h = true ∧ nthB inp h = true := by
  unfold staysB staysTo
  rw [anyB_ex]
  simp
theorem stays_mask {c : Col} (ok : OkCol c) {inp : List Bool} {U : Nat} (hU : ∀ f, U.testBit f = true ↔ ∃ h, nthB inp h = true ∧ (leftC c h).testBit f = true) : MaskOf (staysL c inp) U := by
  intro f
  rw [hU f, staysL_len]
  constructor
  · rintro ⟨h, h1, h2⟩
    obtain ⟨q1, q2⟩ := left_in ok h2
    refine ⟨q2, ?_⟩
    rw [stays_get q2, stays_iff]
    exact ⟨h, q1, by rw [← left_bit ok q1 q2]; exact h2, h1⟩
  · rintro ⟨q2, h1⟩
    rw [stays_get q2, stays_iff] at h1
    obtain ⟨h, q1, h3, h4⟩ := h1
    exact ⟨h, h4, by rw [left_bit ok q1 q2]; exact h3⟩
theorem all_get {n h : Nat} : nthB (allL n n) h = true ↔ h < n := by
  by_cases q : h < n
  · rw [nthB_eq (by simp [allL]; exact q), allL_get]; simp
  · unfold nthB; rw [List.getD_eq_getElem?_getD, List.getElem?_eq_none (by simp [allL]; omega)]; simp [q]
theorem stays_all {c : Col} (ok : OkCol c) : MaskOf (staysL c (allL c.rooms.length c.rooms.length)) (unionN (leftC c)) := by
  have o2 := ok.houses.2
  refine stays_mask ok fun f => ?_
  unfold unionN
  rw [union_bit]
  constructor
  · rintro ⟨h, _, h2⟩
    exact ⟨h, all_get.2 (left_in ok h2).1, h2⟩
  · rintro ⟨h, h1, h2⟩
    have := (left_in ok h2).1
    exact ⟨h, by omega, h2⟩
end Go.Proofs.YtnhifinfjfpoiaaGreat

namespace Go.Proofs.YtnhifinfjfpoiaaGreat
open Go.RowKit



theorem left_is {c : Col} (hk : fitErr c = 0) {l : List Bool} {f : Nat} (hl : l.length = c.rooms.length) (hm : MaskOf l f) : leftV c l = mostC c (fitX c).all f := by
  have ok := okCol_of (fit_parts hk).1
  unfold leftV
  rw [more_is ok hl hm, most_more ok, fit_all hk, tot_all]
def nearL (c : Col) (h : Nat) : List Bool := (List.range c.rooms.length).map fun o => goesB c o h
theorem nearL_len (c : Col) (h : Nat) : (nearL c h).length = c.rooms.length := by simp [nearL]
theorem nearL_get {c : Col} {h o : Nat} : nthB (nearL c h) o = true ↔ o < c.rooms.length ∧ goesB c o h = true := by
  by_cases q : o < c.rooms.length
  · rw [nthB_eq (by rw [nearL_len]; exact q)]; simp [nearL, q]
  · unfold nthB; rw [List.getD_eq_getElem?_getD, List.getElem?_eq_none (by rw [nearL_len]; omega)]; simp [q]
theorem need_mask {c : Col} (ok : OkCol c) {h : Nat} (hh : h < c.rooms.length) : MaskOf (staysL c (nearL c h)) (needFrom c h) := by
  have o2 := ok.houses.2
  refine stays_mask ok fun f => ?_
  unfold needFrom
  rw [needAcc_bit]
  constructor
  · rintro ⟨o, h1, h2⟩
    obtain ⟨q1, q2⟩ := List.mem_filter.1 h1
    have ho := List.mem_range.1 q1
    have q3 : goesB c h o = true := by rw [← nearC_bit hh ho]; exact q2
    exact ⟨o, nearL_get.2 ⟨(left_in ok h2).1, by rw [goesB_symm]; exact q3⟩, h2⟩
  · rintro ⟨o, h1, h2⟩
    obtain ⟨q1, q2⟩ := nearL_get.1 h1
    refine ⟨o, List.mem_filter.2 ⟨List.mem_range.2 (by omega), ?_⟩, h2⟩
    show (nearC c h).testBit o = true
    rw [nearC_bit hh (by omega), goesB_symm]; exact q2
theorem only_mask {c : Col} (ok : OkCol c) {h : Nat} (_hh : h < c.rooms.length) {l : List Bool} (hl : ∀ o, nthB l o = true ↔ o = h) : MaskOf (staysL c l) (leftC c h) := by
  refine stays_mask ok fun f => ?_
  constructor
  · intro hb; exact ⟨h, (hl h).2 rfl, hb⟩
  · rintro ⟨o, h1, h2⟩
    rw [(hl o).1 h1] at h2; exact h2
end Go.Proofs.YtnhifinfjfpoiaaGreat
