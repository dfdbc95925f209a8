/- An argument that is a colony, opened; numbers that come in. An argument that is a list of bytes, opened. -/
import Derived.Test.YtnhifinfjfpoiaaK08
import Derived.Test.YtnhifinfjfpoiaaK09
import Derived.ProofKit
import Derived.SizedLaws
import Derived.Deep.Matrix
import Derived.Deep.SlicePairs
import Derived.Lib.SmallJoins
import Derived.Carry
namespace Go.Proofs.Ytnhifinfjfpoiaa
open Go.RowKit Go.ChangeShapes Go.WideShapes Go.ChangeAt Go.Deep Go.Joins
set_option linter.unusedVariables false
variable {H : Type} {enc : TypeId × Value → H}

theorem i64_of_wf {n : Int} (h : (Lit.int .i64 n).wf = true) : I64 n := by
  have := bounds_i64 h
  exact ⟨this.1, by omega⟩
theorem cell_lt {w : World} {a : Addr} {v : Value} (h : w.cell? a = some v) : a.block < w.heap.size ∧ a.spot = none := by
  unfold World.cell? at h
  split at h
  · rename_i c _ _ hb
    refine ⟨(Array.getElem?_eq_some_iff.1 hb).1, ?_⟩
    split at h
    · cases h
    · rename_i hs; simpa using hs
  · cases h
theorem add_eq {a : Addr} (hs : a.spot = none) (i : Nat) : a.add i = ⟨a.block, a.off + i, none⟩ := by
  unfold Addr.add
  split
  · rename_i h; subst h; cases a; simp at hs; subst hs; rfl
  · rfl
theorem nth_take {zs : List Int} {len j : Nat} (h : j < len) : (zs.take len).getD j 0 = zs.getD j 0 := by
  rw [List.getD_eq_getElem?_getD, List.getD_eq_getElem?_getD, List.getElem?_take, if_pos h]
theorem addr_zero {w : World} {a : Addr} {v : Value} (h : w.cell? (a.add 0) = some v) : a.block < w.heap.size ∧ a.spot = none := by
  have : a.add 0 = a := by unfold Addr.add; rfl
  rw [this] at h; exact cell_lt h
theorem weightsAll_mem {P : Program} {t : TypeId} : ∀ {l : List (DataW H)} {d : DataW H} {m : Nat}, d ∈ l → m ∈ d.weights P t → m ∈ DataW.weightsAll P t l
  | x :: l, d, m, hd, hm => by
    simp only [DataW.weightsAll, List.mem_append]
    rcases List.mem_cons.1 hd with rfl | hd
    · exact .inl hm
    · exact .inr (weightsAll_mem hd hm)
theorem open_nums {W : World} {held : Bool} {n : Nat} {v : Value} {y : DataW H × List MemPlace} (h : DataW.trod enc Try.prog W 0 (fun _ => true) held n 22 [v] = some y) (hw : ∀ m ∈ y.1.weights Try.prog 22, m ≤ reachBytes) : ∃ xs, IsInts W W.heap.size v xs := by
  rcases open_ints Try.underlying22 Try.underlying3 intCells h with ⟨hcs, hx⟩ | ⟨a, len, cap, zs, hcs, _, hl, hm, hz, hx, hcell, hwz⟩
  · cases hcs
    exact ⟨[], ⟨⟨none, 0, rfl, Nat.le_refl _, by simp, .inl rfl⟩, fun _ h => by cases h⟩⟩
  · cases hcs
    simp only [if_true] at hz
    subst hx
    have hb : (zs.take len).length + (zs.drop len).length ≤ 140737488355328 := by
      have h1 := hw (((lits (H := H) .i64 (zs.take len)).length + (lits (H := H) .i64 (zs.drop len)).length) * Try.prog.bytesOf 3) (by simp [DataW.weights, Try.underlying22])
      have h2 : Try.prog.bytesOf 3 = 8 := by kernel_rfl
      rw [h2] at h1
      simp only [lits, List.length_map, reachBytes] at h1
      omega
    have hlz : (zs.take len).length = len := by simp; omega
    refine ⟨zs.take len, ⟨some a, cap, by rw [hlz], by rw [hlz]; exact hl, by omega, ?_⟩, fun x hx => i64_of_wf (hwz x (List.mem_of_mem_take hx))⟩
    rw [hlz]
    rcases Nat.eq_zero_or_pos len with h0 | h0
    · exact .inl h0
    · obtain ⟨h1, h2⟩ := addr_zero (hcell 0 (by omega))
      refine .inr ⟨a.block, a.off, by cases a; simp at h2; subst h2; rfl, h1, fun j hj => ?_⟩
      rw [← add_eq h2 j, hcell j (by omega)]
      show some (Value.int .i64 (zs.getD j 0)) = some (.int .i64 ((zs.take len).getD j 0))
      rw [nth_take (by omega)]
theorem open_rows {W : World} {held : Bool} {n : Nat} {v : Value} {y : DataW H × List MemPlace} (h : DataW.trod enc Try.prog W 0 (fun _ => true) held n 24 [v] = some y) (hw : ∀ m ∈ y.1.weights Try.prog 24, m ≤ reachBytes) : ∃ xs, IsRows W W.heap.size v xs := by
  have rowCells : Try.prog.cellsOf 22 = 1 := by kernel_rfl
  rcases open_int_rows Try.underlying24 Try.underlying22 Try.underlying3 rowCells intCells h with ⟨hcs, hx⟩ | ⟨a, len, cap, A, L, C, Z, hcs, _, hl, hm, hx, hrow⟩
  · cases hcs
    exact ⟨[], fun _ => .slice none 0 0, ⟨none, 0, rfl, Nat.le_refl _, by simp, .inl rfl⟩, fun j hj => by simp at hj⟩
  · cases hcs
    subst hx
    have hb : len ≤ 140737488355328 := by
      have h1 := hw ((((List.range len).map fun r => intRow (H := H) .i64 (A r) (L r) (Z r)).length + ((List.range (cap - len)).map fun j => intRow (H := H) .i64 (A (len + j)) (L (len + j)) (Z (len + j))).length) * Try.prog.bytesOf 22) (by simp [DataW.weights, Try.underlying24])
      have h2 : Try.prog.bytesOf 22 = 24 := by kernel_rfl
      rw [h2] at h1
      simp only [List.length_map, List.length_range, reachBytes] at h1
      omega
    have hin : ∀ r, r < len → L r ≤ 140737488355328 := by
      intro r hr
      obtain ⟨_, hLC, _, hZ, _, hA0, _⟩ := hrow r (by omega)
      cases hA : A r with
      | none => have := hA0 hA; omega
      | some a' =>
        have hmem : ∀ m ∈ (intRow (H := H) .i64 (A r) (L r) (Z r)).weights Try.prog 22, m ≤ reachBytes := by
          intro m hm'
          refine hw m ?_
          simp only [DataW.weights, Try.underlying24, List.mem_cons, List.mem_append]
          exact .inr (.inl (weightsAll_mem (List.mem_map.2 ⟨r, List.mem_range.2 hr, rfl⟩) hm'))
        rw [hA] at hmem
        have h1 := hmem (((lits (H := H) .i64 ((Z r).take (L r))).length + (lits (H := H) .i64 ((Z r).drop (L r))).length) * Try.prog.bytesOf 3) (by simp [intRow, DataW.weights, Try.underlying22])
        have h2 : Try.prog.bytesOf 3 = 8 := by kernel_rfl
        rw [h2] at h1
        simp only [lits, List.length_map, List.length_take, List.length_drop, reachBytes] at h1
        omega
    refine ⟨(List.range len).map fun r => (Z r).take (L r), fun r => .slice (A r) (L r) (C r), ⟨some a, cap, by simp, by simpa using hl, by simpa using hb, ?_⟩, fun r hr => ?_⟩
    · rcases Nat.eq_zero_or_pos len with h0 | h0
      · exact .inl (by simpa using h0)
      · obtain ⟨h1, h2⟩ := addr_zero (hrow 0 (by omega)).1
        refine .inr ⟨a.block, a.off, by cases a; simp at h2; subst h2; rfl, h1, fun j hj => ?_⟩
        simp at hj
        rw [← add_eq h2 j, (hrow j (by omega)).1]
    · simp at hr
      obtain ⟨_, hLC, _, hZ, hwf, hA0, hA1⟩ := hrow r (by omega)
      have e : nthR ((List.range len).map fun r => (Z r).take (L r)) r = (Z r).take (L r) := by unfold nthR; simp [hr]
      have hlen : ((Z r).take (L r)).length = L r := by simp; omega
      rw [e]
      refine ⟨⟨A r, C r, by rw [hlen], by rw [hlen]; exact hLC, by rw [hlen]; exact hin r hr, ?_⟩, fun x hx => i64_of_wf (hwf x (List.mem_of_mem_take hx))⟩
      rw [hlen]
      rcases Nat.eq_zero_or_pos (L r) with h0 | h0
      · exact .inl h0
      · cases hA : A r with
        | none => have := hA0 hA; omega
        | some a' =>
          obtain ⟨_, hc⟩ := hA1 a' hA
          obtain ⟨h1, h2⟩ := addr_zero (hc 0 (by omega))
          refine .inr ⟨a'.block, a'.off, by cases a'; simp at h2; subst h2; rfl, h1, fun j hj => ?_⟩
          rw [← add_eq h2 j, hc j (by omega)]
          show some (Value.int .i64 ((Z r).getD j 0)) = some (.int .i64 (((Z r).take (L r)).getD j 0))
          rw [nth_take (by omega)]
theorem open_pairs {W : World} {held : Bool} {n : Nat} {v : Value} {y : DataW H × List MemPlace} (h : DataW.trod enc Try.prog W 0 (fun _ => true) held n 23 [v] = some y) (hw : ∀ m ∈ y.1.weights Try.prog 23, m ≤ reachBytes) : ∃ xs, IsPairs W W.heap.size v xs := by
  rcases open_slice_pairs Try.underlying23 Try.underlying63 runCells rfl rfl intCells intCells h with ⟨hcs, hx⟩ | ⟨a, len, cap, m, n', V0, V1, D0, D1, P0, P1, hcs, _, hl, hm, hmm, hx, hall⟩
  · cases hcs
    exact ⟨[], ⟨⟨none, 0, rfl, Nat.le_refl _, by simp, .inl rfl⟩, fun _ h => by cases h⟩⟩
  · cases hcs
    simp only [if_true] at hmm
    obtain rfl : m = cap := hmm
    subst hx
    have hb : len ≤ 140737488355328 := by
      have h1 := hw ((((List.range len).map fun i => DataW.agg [D0 i, D1 i]).length + ((List.range (m - len)).map fun j => DataW.agg [D0 (len + j), D1 (len + j)]).length) * Try.prog.bytesOf 63) (by simp [DataW.weights, Try.underlying23])
      have h2 : Try.prog.bytesOf 63 = 16 := by kernel_rfl
      rw [h2] at h1
      simp only [List.length_map, List.length_range, reachBytes] at h1
      omega
    have hV : ∀ i, i < m → ∃ x z : Int, V0 i = .int .i64 x ∧ V1 i = .int .i64 z ∧ I64 x ∧ I64 z := by
      intro i hi
      obtain ⟨_, _, t0, t1⟩ := hall i hi
      obtain ⟨x, e0, _, w0⟩ := DataW.trod_int Try.underlying3 t0
      obtain ⟨z, e1, _, w1⟩ := DataW.trod_int Try.underlying3 t1
      have e0' : V0 i = .int .i64 x := by simpa using e0
      have e1' : V1 i = .int .i64 z := by simpa using e1
      exact ⟨x, z, e0', e1', i64_of_wf w0, i64_of_wf w1⟩
    let g : Nat → Int × Int := fun i => (intOf (V0 i), intOf (V1 i))
    have hg : ∀ i, i < m → V0 i = .int .i64 (g i).1 ∧ V1 i = .int .i64 (g i).2 ∧ I64 (g i).1 ∧ I64 (g i).2 := by
      intro i hi
      obtain ⟨x, z, e0, e1, hx, hz⟩ := hV i hi
      show V0 i = .int .i64 (intOf (V0 i)) ∧ V1 i = .int .i64 (intOf (V1 i)) ∧ I64 (intOf (V0 i)) ∧ I64 (intOf (V1 i))
      rw [e0, e1]; exact ⟨rfl, rfl, hx, hz⟩
    have hn : ∀ i, i < len → nthP ((List.range len).map g) i = g i := fun i hi => by unfold nthP; simp [hi]
    refine ⟨(List.range len).map g, ⟨some a, m, by simp, by simpa using hl, by simpa using hb, ?_⟩, fun p hp => ?_⟩
    · rcases Nat.eq_zero_or_pos len with h0 | h0
      · exact .inl (by simpa using h0)
      · obtain ⟨h1, h2⟩ := addr_zero (by have := (hall 0 (by omega)).1; simpa using this)
        refine .inr ⟨a.block, a.off, by cases a; simp at h2; subst h2; rfl, h1, fun j hj => ?_⟩
        simp at hj
        obtain ⟨c0, c1, _, _⟩ := hall (j / 2) (by omega)
        obtain ⟨e0, e1, _, _⟩ := hg (j / 2) (by omega)
        rw [add_eq h2, e0] at c0
        rw [add_eq h2, e1] at c1
        unfold pcell
        rw [hn (j / 2) (by omega)]
        by_cases q : j % 2 = 0
        · rw [if_pos q, show a.off + j = a.off + j / 2 * 2 from by omega]; exact c0
        · rw [if_neg q, show a.off + j = a.off + (j / 2 * 2 + 1) from by omega]; exact c1
    · obtain ⟨i, hi, rfl⟩ := List.mem_map.1 hp
      have := List.mem_range.1 hi
      exact ⟨(hg i (by omega)).2.2.1, (hg i (by omega)).2.2.2⟩
theorem colCells : Try.prog.cellsOf 26 = 4 := by kernel_rfl
set_option maxRecDepth 100000 in
theorem open_col {W : World} {base : Nat} {r : Reach} {v : Value} {d : DataW H} {p : List MemPlace} (hv : Value.okWide Try.prog W r base 26 v) (h : DataW.Trod enc Try.prog W 0 (fun _ => true) true 26 v d p) (hw : ∀ m ∈ d.weights Try.prog 26, m ≤ reachBytes) :
    ∃ r t u n c, v = .agg #[r, t, u, n] ∧ ColAt W W.heap.size r t u n c := by
  obtain ⟨v0, v1, v2, v3, y0, y1, y2, y3, m, rfl, rfl, _, h0, h1, h2, h3⟩ := open_agg4 Try.underlying26 (by kernel_rfl) colCells hv h
  simp only [DataW.weights, Try.underlying26, DataW.weightsEach, List.map_cons, List.map_nil, List.mem_append] at hw
  obtain ⟨a, ha⟩ := open_nums h0 (fun m hm => hw m (.inl hm))
  obtain ⟨b, hb⟩ := open_nums h1 (fun m hm => hw m (.inr (.inl hm)))
  obtain ⟨c, hc⟩ := open_pairs h2 (fun m hm => hw m (.inr (.inr (.inl hm))))
  obtain ⟨e, he⟩ := open_rows h3 (fun m hm => hw m (.inr (.inr (.inr (.inl hm)))))
  exact ⟨v0, v1, v2, v3, ⟨a, b, c, e⟩, rfl, ha, hb, hc, he⟩
end Go.Proofs.Ytnhifinfjfpoiaa

namespace Go.Proofs.Ytnhifinfjfpoiaa
open Go.RowKit Go.ChangeShapes Go.WideShapes Go.ChangeAt Go.Deep Go.Joins
set_option linter.unusedVariables false
variable {H : Type} {enc : TypeId × Value → H}

theorem byteCells : Try.prog.cellsOf 5 = 1 := by kernel_rfl
theorem byte_of_wf {n : Int} (h : (Lit.int .u8 n).wf = true) : 0 ≤ n ∧ n ≤ 255 := bounds_u8 h
theorem open_byteNums {W : World} {held : Bool} {n : Nat} {v : Value} {y : DataW H × List MemPlace} (h : DataW.trod enc Try.prog W 0 (fun _ => true) held n 53 [v] = some y) (hw : ∀ m ∈ y.1.weights Try.prog 53, m ≤ reachBytes) : ∃ xs, IsBytes W W.heap.size v xs := by
  rcases open_ints Try.underlying53 Try.underlying5 byteCells h with ⟨hcs, hx⟩ | ⟨a, len, cap, zs, hcs, _, hl, hm, hz, hx, hcell, hwz⟩
  · cases hcs
    exact ⟨[], ⟨none, 0, rfl, Nat.le_refl _, by simp, .inl rfl⟩, fun _ h => by cases h⟩
  · cases hcs
    simp only [if_true] at hz
    subst hx
    have hb : (zs.take len).length + (zs.drop len).length ≤ 140737488355328 := by
      have h1 := hw (((lits (H := H) .u8 (zs.take len)).length + (lits (H := H) .u8 (zs.drop len)).length) * Try.prog.bytesOf 5) (by simp [DataW.weights, Try.underlying53])
      have h2 : Try.prog.bytesOf 5 = 1 := by kernel_rfl
      rw [h2] at h1
      simp only [lits, List.length_map, reachBytes] at h1
      omega
    have hlz : (zs.take len).length = len := by simp; omega
    refine ⟨zs.take len, ⟨some a, cap, by rw [hlz], by rw [hlz]; exact hl, by omega, ?_⟩, fun x hx => byte_of_wf (hwz x (List.mem_of_mem_take hx))⟩
    rw [hlz]
    rcases Nat.eq_zero_or_pos len with h0 | h0
    · exact .inl h0
    · obtain ⟨h1, h2⟩ := addr_zero (hcell 0 (by omega))
      refine .inr ⟨a.block, a.off, by cases a; simp at h2; subst h2; rfl, h1, fun j hj => ?_⟩
      rw [← add_eq h2 j, hcell j (by omega)]
      show some (Value.int .u8 (zs.getD j 0)) = some (.int .u8 ((zs.take len).getD j 0))
      rw [nth_take (by omega)]
set_option maxRecDepth 100000 in
theorem open_bytes {W : World} {base : Nat} {r : Reach} {v : Value} {d : DataW H} {p : List MemPlace} (hv : Value.okWide Try.prog W r base 53 v) (h : DataW.Trod enc Try.prog W 0 (fun _ => true) true 53 v d p) (hw : ∀ m ∈ d.weights Try.prog 53, m ≤ reachBytes) :
    ∃ xs, IsBytes W W.heap.size v xs := by
  obtain ⟨a, len, cap, rfl⟩ := okWide_slice Try.underlying53 hv
  obtain ⟨fuel, hf⟩ := h
  exact open_byteNums (y := (d, p)) (by simpa [Value.cells] using hf) hw
end Go.Proofs.Ytnhifinfjfpoiaa
