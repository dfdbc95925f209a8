/- RatBaits holds: for every colony, house and reach the law answers true, and what came in reads as it read before. No condition is laid on the arguments beyond the form's own reach. -/
import Derived.Test.YtnhifinfjfpoiaaGreatK09
import Derived.Test.YtnhifinfjfpoiaaGreatK12
import Derived.Test.YtnhifinfjfpoiaaGreatK18
import Derived.Test.YtnhifinfjfpoiaaGreatRows
import Derived.ProofKit
import Derived.SizedLaws
import Derived.Deep.Matrix
import Derived.Deep.SlicePairs
import Derived.Lib.SmallJoins
import Derived.Carry
namespace Go.Proofs.YtnhifinfjfpoiaaGreat
open Go.RowKit Go.ChangeShapes Go.WideShapes Go.ChangeAt Go.Deep Go.Joins
set_option linter.unusedVariables false
variable {H : Type} {enc : TypeId × Value → H}

theorem i64_of_wf {n : Int} (h : (Lit.int .i64 n).wf = true) : I64 n := by
  have := bounds_i64 h
  exact ⟨this.1, by omega⟩
theorem cell_lt {w : World} {a : Addr} {v : Value} (h : w.cell? a = some v) : a.block < w.heap.size ∧ a.spot = none := by
  unfold World.cell? at h
  split at h
  · rename_i c _ _ hb
    refine ⟨(Array.getElem?_eq_some_iff.1 hb).1, ?_⟩
    split at h
    · cases h
    · rename_i hs; simpa using hs
  · cases h
theorem add_eq {a : Addr} (hs : a.spot = none) (i : Nat) : a.add i = ⟨a.block, a.off + i, none⟩ := by
  unfold Addr.add
  split
  · rename_i h; subst h; cases a; simp at hs; subst hs; rfl
  · rfl
theorem nth_take {zs : List Int} {len j : Nat} (h : j < len) : (zs.take len).getD j 0 = zs.getD j 0 := by
  rw [List.getD_eq_getElem?_getD, List.getD_eq_getElem?_getD, List.getElem?_take, if_pos h]
theorem addr_zero {w : World} {a : Addr} {v : Value} (h : w.cell? (a.add 0) = some v) : a.block < w.heap.size ∧ a.spot = none := by
  have : a.add 0 = a := by unfold Addr.add; rfl
  rw [this] at h; exact cell_lt h
theorem weightsAll_mem {P : Program} {t : TypeId} : ∀ {l : List (DataW H)} {d : DataW H} {m : Nat}, d ∈ l → m ∈ d.weights P t → m ∈ DataW.weightsAll P t l
  | x :: l, d, m, hd, hm => by
    simp only [DataW.weightsAll, List.mem_append]
    rcases List.mem_cons.1 hd with rfl | hd
    · exact .inl hm
    · exact .inr (weightsAll_mem hd hm)
theorem open_nums {W : World} {held : Bool} {n : Nat} {v : Value} {y : DataW H × List MemPlace} (h : DataW.trod enc Tryz.prog W 0 (fun _ => true) held n 22 [v] = some y) (hw : ∀ m ∈ y.1.weights Tryz.prog 22, m ≤ reachBytes) : ∃ xs, IsInts W W.heap.size v xs := by
  rcases open_ints Tryz.underlying22 Tryz.underlying3 intCells h with ⟨hcs, hx⟩ | ⟨a, len, cap, zs, hcs, _, hl, hm, hz, hx, hcell, hwz⟩
  · cases hcs
    exact ⟨[], ⟨⟨none, 0, rfl, Nat.le_refl _, by simp, .inl rfl⟩, fun _ h => by cases h⟩⟩
  · cases hcs
    simp only [if_true] at hz
    subst hx
    have hb : (zs.take len).length + (zs.drop len).length ≤ 140737488355328 := by
      have h1 := hw (((lits (H := H) .i64 (zs.take len)).length + (lits (H := H) .i64 (zs.drop len)).length) * Tryz.prog.bytesOf 3) (by simp [DataW.weights, Tryz.underlying22])
      have h2 : Tryz.prog.bytesOf 3 = 8 := by kernel_rfl
      rw [h2] at h1
      simp only [lits, List.length_map, reachBytes] at h1
      omega
    have hlz : (zs.take len).length = len := by simp; omega
    refine ⟨zs.take len, ⟨some a, cap, by rw [hlz], by rw [hlz]; exact hl, by omega, ?_⟩, fun x hx => i64_of_wf (hwz x (List.mem_of_mem_take hx))⟩
    rw [hlz]
    rcases Nat.eq_zero_or_pos len with h0 | h0
    · exact .inl h0
    · obtain ⟨h1, h2⟩ := addr_zero (hcell 0 (by omega))
      refine .inr ⟨a.block, a.off, by cases a; simp at h2; subst h2; rfl, h1, fun j hj => ?_⟩
      rw [← add_eq h2 j, hcell j (by omega)]
      show some (Value.int .i64 (zs.getD j 0)) = some (.int .i64 ((zs.take len).getD j 0))
      rw [nth_take (by omega)]
theorem open_rows {W : World} {held : Bool} {n : Nat} {v : Value} {y : DataW H × List MemPlace} (h : DataW.trod enc Tryz.prog W 0 (fun _ => true) held n 24 [v] = some y) (hw : ∀ m ∈ y.1.weights Tryz.prog 24, m ≤ reachBytes) : ∃ xs, IsRows W W.heap.size v xs := by
  have rowCells : Tryz.prog.cellsOf 22 = 1 := by kernel_rfl
  rcases open_int_rows Tryz.underlying24 Tryz.underlying22 Tryz.underlying3 rowCells intCells h with ⟨hcs, hx⟩ | ⟨a, len, cap, A, L, C, Z, hcs, _, hl, hm, hx, hrow⟩
  · cases hcs
    exact ⟨[], fun _ => .slice none 0 0, ⟨none, 0, rfl, Nat.le_refl _, by simp, .inl rfl⟩, fun j hj => by simp at hj⟩
  · cases hcs
    subst hx
    have hb : len ≤ 140737488355328 := by
      have h1 := hw ((((List.range len).map fun r => intRow (H := H) .i64 (A r) (L r) (Z r)).length + ((List.range (cap - len)).map fun j => intRow (H := H) .i64 (A (len + j)) (L (len + j)) (Z (len + j))).length) * Tryz.prog.bytesOf 22) (by simp [DataW.weights, Tryz.underlying24])
      have h2 : Tryz.prog.bytesOf 22 = 24 := by kernel_rfl
      rw [h2] at h1
      simp only [List.length_map, List.length_range, reachBytes] at h1
      omega
    have hin : ∀ r, r < len → L r ≤ 140737488355328 := by
      intro r hr
      obtain ⟨_, hLC, _, hZ, _, hA0, _⟩ := hrow r (by omega)
      cases hA : A r with
      | none => have := hA0 hA; omega
      | some a' =>
        have hmem : ∀ m ∈ (intRow (H := H) .i64 (A r) (L r) (Z r)).weights Tryz.prog 22, m ≤ reachBytes := by
          intro m hm'
          refine hw m ?_
          simp only [DataW.weights, Tryz.underlying24, List.mem_cons, List.mem_append]
          exact .inr (.inl (weightsAll_mem (List.mem_map.2 ⟨r, List.mem_range.2 hr, rfl⟩) hm'))
        rw [hA] at hmem
        have h1 := hmem (((lits (H := H) .i64 ((Z r).take (L r))).length + (lits (H := H) .i64 ((Z r).drop (L r))).length) * Tryz.prog.bytesOf 3) (by simp [intRow, DataW.weights, Tryz.underlying22])
        have h2 : Tryz.prog.bytesOf 3 = 8 := by kernel_rfl
        rw [h2] at h1
        simp only [lits, List.length_map, List.length_take, List.length_drop, reachBytes] at h1
        omega
    refine ⟨(List.range len).map fun r => (Z r).take (L r), fun r => .slice (A r) (L r) (C r), ⟨some a, cap, by simp, by simpa using hl, by simpa using hb, ?_⟩, fun r hr => ?_⟩
    · rcases Nat.eq_zero_or_pos len with h0 | h0
      · exact .inl (by simpa using h0)
      · obtain ⟨h1, h2⟩ := addr_zero (hrow 0 (by omega)).1
        refine .inr ⟨a.block, a.off, by cases a; simp at h2; subst h2; rfl, h1, fun j hj => ?_⟩
        simp at hj
        rw [← add_eq h2 j, (hrow j (by omega)).1]
    · simp at hr
      obtain ⟨_, hLC, _, hZ, hwf, hA0, hA1⟩ := hrow r (by omega)
      have e : nthR ((List.range len).map fun r => (Z r).take (L r)) r = (Z r).take (L r) := by unfold nthR; simp [hr]
      have hlen : ((Z r).take (L r)).length = L r := by simp; omega
      rw [e]
      refine ⟨⟨A r, C r, by rw [hlen], by rw [hlen]; exact hLC, by rw [hlen]; exact hin r hr, ?_⟩, fun x hx => i64_of_wf (hwf x (List.mem_of_mem_take hx))⟩
      rw [hlen]
      rcases Nat.eq_zero_or_pos (L r) with h0 | h0
      · exact .inl h0
      · cases hA : A r with
        | none => have := hA0 hA; omega
        | some a' =>
          obtain ⟨_, hc⟩ := hA1 a' hA
          obtain ⟨h1, h2⟩ := addr_zero (hc 0 (by omega))
          refine .inr ⟨a'.block, a'.off, by cases a'; simp at h2; subst h2; rfl, h1, fun j hj => ?_⟩
          rw [← add_eq h2 j, hc j (by omega)]
          show some (Value.int .i64 ((Z r).getD j 0)) = some (.int .i64 (((Z r).take (L r)).getD j 0))
          rw [nth_take (by omega)]
theorem open_pairs {W : World} {held : Bool} {n : Nat} {v : Value} {y : DataW H × List MemPlace} (h : DataW.trod enc Tryz.prog W 0 (fun _ => true) held n 23 [v] = some y) (hw : ∀ m ∈ y.1.weights Tryz.prog 23, m ≤ reachBytes) : ∃ xs, IsPairs W W.heap.size v xs := by
  rcases open_slice_pairs Tryz.underlying23 Tryz.underlying48 runCells rfl rfl intCells intCells h with ⟨hcs, hx⟩ | ⟨a, len, cap, m, n', V0, V1, D0, D1, P0, P1, hcs, _, hl, hm, hmm, hx, hall⟩
  · cases hcs
    exact ⟨[], ⟨⟨none, 0, rfl, Nat.le_refl _, by simp, .inl rfl⟩, fun _ h => by cases h⟩⟩
  · cases hcs
    simp only [if_true] at hmm
    obtain rfl : m = cap := hmm
    subst hx
    have hb : len ≤ 140737488355328 := by
      have h1 := hw ((((List.range len).map fun i => DataW.agg [D0 i, D1 i]).length + ((List.range (m - len)).map fun j => DataW.agg [D0 (len + j), D1 (len + j)]).length) * Tryz.prog.bytesOf 48) (by simp [DataW.weights, Tryz.underlying23])
      have h2 : Tryz.prog.bytesOf 48 = 16 := by kernel_rfl
      rw [h2] at h1
      simp only [List.length_map, List.length_range, reachBytes] at h1
      omega
    have hV : ∀ i, i < m → ∃ x z : Int, V0 i = .int .i64 x ∧ V1 i = .int .i64 z ∧ I64 x ∧ I64 z := by
      intro i hi
      obtain ⟨_, _, t0, t1⟩ := hall i hi
      obtain ⟨x, e0, _, w0⟩ := DataW.trod_int Tryz.underlying3 t0
      obtain ⟨z, e1, _, w1⟩ := DataW.trod_int Tryz.underlying3 t1
      have e0' : V0 i = .int .i64 x := by simpa using e0
      have e1' : V1 i = .int .i64 z := by simpa using e1
      exact ⟨x, z, e0', e1', i64_of_wf w0, i64_of_wf w1⟩
    let g : Nat → Int × Int := fun i => (intOf (V0 i), intOf (V1 i))
    have hg : ∀ i, i < m → V0 i = .int .i64 (g i).1 ∧ V1 i = .int .i64 (g i).2 ∧ I64 (g i).1 ∧ I64 (g i).2 := by
      intro i hi
      obtain ⟨x, z, e0, e1, hx, hz⟩ := hV i hi
      show V0 i = .int .i64 (intOf (V0 i)) ∧ V1 i = .int .i64 (intOf (V1 i)) ∧ I64 (intOf (V0 i)) ∧ I64 (intOf (V1 i))
      rw [e0, e1]; exact ⟨rfl, rfl, hx, hz⟩
    have hn : ∀ i, i < len → nthP ((List.range len).map g) i = g i := fun i hi => by unfold nthP; simp [hi]
    refine ⟨(List.range len).map g, ⟨some a, m, by simp, by simpa using hl, by simpa using hb, ?_⟩, fun p hp => ?_⟩
    · rcases Nat.eq_zero_or_pos len with h0 | h0
      · exact .inl (by simpa using h0)
      · obtain ⟨h1, h2⟩ := addr_zero (by have := (hall 0 (by omega)).1; simpa using this)
        refine .inr ⟨a.block, a.off, by cases a; simp at h2; subst h2; rfl, h1, fun j hj => ?_⟩
        simp at hj
        obtain ⟨c0, c1, _, _⟩ := hall (j / 2) (by omega)
        obtain ⟨e0, e1, _, _⟩ := hg (j / 2) (by omega)
        rw [add_eq h2, e0] at c0
        rw [add_eq h2, e1] at c1
        unfold pcell
        rw [hn (j / 2) (by omega)]
        by_cases q : j % 2 = 0
        · rw [if_pos q, show a.off + j = a.off + j / 2 * 2 from by omega]; exact c0
        · rw [if_neg q, show a.off + j = a.off + (j / 2 * 2 + 1) from by omega]; exact c1
    · obtain ⟨i, hi, rfl⟩ := List.mem_map.1 hp
      have := List.mem_range.1 hi
      exact ⟨(hg i (by omega)).2.2.1, (hg i (by omega)).2.2.2⟩
theorem colCells : Tryz.prog.cellsOf 26 = 4 := by kernel_rfl
set_option maxRecDepth 100000 in
theorem open_col {W : World} {base : Nat} {r : Reach} {v : Value} {d : DataW H} {p : List MemPlace} (hv : Value.okWide Tryz.prog W r base 26 v) (h : DataW.Trod enc Tryz.prog W 0 (fun _ => true) true 26 v d p) (hw : ∀ m ∈ d.weights Tryz.prog 26, m ≤ reachBytes) :
    ∃ r t u n c, v = .agg #[r, t, u, n] ∧ ColAt W W.heap.size r t u n c := by
  obtain ⟨v0, v1, v2, v3, y0, y1, y2, y3, m, rfl, rfl, _, h0, h1, h2, h3⟩ := open_agg4 Tryz.underlying26 (by kernel_rfl) colCells hv h
  simp only [DataW.weights, Tryz.underlying26, DataW.weightsEach, List.map_cons, List.map_nil, List.mem_append] at hw
  obtain ⟨a, ha⟩ := open_nums h0 (fun m hm => hw m (.inl hm))
  obtain ⟨b, hb⟩ := open_nums h1 (fun m hm => hw m (.inr (.inl hm)))
  obtain ⟨c, hc⟩ := open_pairs h2 (fun m hm => hw m (.inr (.inr (.inl hm))))
  obtain ⟨e, he⟩ := open_rows h3 (fun m hm => hw m (.inr (.inr (.inr (.inl hm)))))
  exact ⟨v0, v1, v2, v3, ⟨a, b, c, e⟩, rfl, ha, hb, hc, he⟩
end Go.Proofs.YtnhifinfjfpoiaaGreat

namespace Go.Proofs.YtnhifinfjfpoiaaGreat
open Go.RowKit
set_option linter.unusedVariables false
set_option linter.unusedSimpArgs false

set_option maxRecDepth 100000 in
set_option maxHeartbeats 8000000 in
theorem ratBaits_any (c : Col) (r t u n : Value) (hs re : Int) (w : World) (hc : ColAt w w.heap.size r t u n c) :
    Calls Tryz.prog 3 #[.agg #[r, t, u, n], .int .i64 hs, .int .i64 re] w fun e w' => e = .returned (.bool true) ∧ Below w.heap.size w w' := by
  have hBW : Below w.heap.size w (w.alloc (.cells #[r, t, u, n] 26)) := (Below.refl _ w).alloc (Nat.le_refl _) _
  have HLO := Lib.hid (long_any c r t u n _ (hc.on hBW))
  have HC := Lib.hid (hc.on hBW)
  have c0 : (w.alloc (.cells #[r, t, u, n] 26)).heap[w.heap.size]? = some (.cells #[r, t, u, n] 26 (0, 0)) := blk _ _ _ _ rfl
  obtain ⟨hr, htr, hu, hn⟩ := hc
  have HI := Lib.hid (And.intro hr (And.intro htr (And.intro hu hn)))
  obtain ⟨ar, cr, rfl, _⟩ := hr.open
  obtain ⟨at_, ct, rfl, _⟩ := htr.open
  obtain ⟨au, cu, rfl, _⟩ := hu.open
  obtain ⟨an, cn, rfl, _⟩ := hn.open
  have HB := Lib.hid hBW
  have HX := Lib.hid c0
  clear hr htr hu hn hBW c0
  cases hl : longB c
  case true =>
    rw [hl] at HLO
    clear hl
    go_enter Tryz.func3, Tryz.ntmps3
    go_wp2_with fail
    refine HLO.out.mono ?_
    rintro e w1 ⟨rfl, hb1⟩
    go_wp2_with fail
    refine (awake_any w1).mono ?_
    rintro e w2 ⟨rfl, hb2⟩
    go_wp2_with fail
    go_ret
    have h1 := HB.out.trans (hb1.mono (by simp))
    exact ⟨rfl, h1.trans (hb2.mono h1.size)⟩
  case false =>
    rw [hl] at HLO
    have HSH := Lib.hid (short_of hl HI.out.1.2 HI.out.2.1.2 HI.out.2.2.1.2 (rows_i64 HI.out.2.2.2))
    clear hl HI
    go_enter Tryz.func3, Tryz.ntmps3
    go_upto_region 3 with (go_at_call 5; refine HLO.out.mono ?_; rintro e W0 ⟨rfl, hb0⟩; have H0 := Lib.hid hb0; clear hb0)
    have b0 := blk_on HX.out H0.out
    have hlt := (Array.getElem?_eq_some_iff.1 b0).1
    have hS : BoxK W0 w.heap.size (.slice ar c.rooms.length cr) (.slice at_ c.traps.length ct) (.slice au c.runs.length cu) (.slice an c.nights.length cn) (W0.drewN 1) := BoxK.of b0 1
    have HLT := Lib.hid hlt
    have hcw : ∀ W, Hid (Below W0.heap.size W0 W) → ColAt W W.heap.size (.slice ar c.rooms.length cr) (.slice at_ c.traps.length ct) (.slice au c.runs.length cu) (.slice an c.nights.length cn) c := fun W hW => (HC.out.on H0.out).on hW.out
    have HOWN : Hid (∀ W, Hid (Below W0.heap.size W0 W) → Calls Tryz.prog 7 #[.agg #[.slice ar c.rooms.length cr, .slice at_ c.traps.length ct, .slice au c.runs.length cu, .slice an c.nights.length cn]] W fun e w' => ∃ r' t' u' n', e = .returned (.agg #[r', t', u', n']) ∧ OwnCol w' W.heap.size r' t' u' n' c ∧ Below W.heap.size W w' ∧ W0.heap.size ≤ W.heap.size) := fun W hW => (own_any c _ _ _ _ W (hcw W hW) HSH.out).mono fun _ _ ⟨a, b, d, e, h1, h2, h3⟩ => ⟨a, b, d, e, h1, h2, h3, hW.out.size⟩
    have HTHE : Hid (∀ W, Hid (Below W0.heap.size W0 W) → Calls Tryz.prog 8 #[.agg #[.slice ar c.rooms.length cr, .slice at_ c.traps.length ct, .slice au c.runs.length cu, .slice an c.nights.length cn]] W fun e w' => ∃ r' t' u' n', e = .returned (.agg #[r', t', u', n']) ∧ RefCol w' W.heap.size r' t' u' n' c ∧ Below W.heap.size W w' ∧ W0.heap.size ≤ W.heap.size) := fun W hW => (theirs_any c _ _ _ _ W (hcw W hW) HSH.out).mono fun _ _ ⟨a, b, d, e, h1, h2, h3⟩ => ⟨a, b, d, e, h1, h2, h3, hW.out.size⟩
    have hS' : W0.drew.cell? ⟨w.heap.size, 0, none⟩ = some (.slice ar c.rooms.length cr) ∧ W0.drew.cell? ⟨w.heap.size, 1, none⟩ = some (.slice at_ c.traps.length ct) ∧ W0.drew.cell? ⟨w.heap.size, 2, none⟩ = some (.slice au c.runs.length cu) ∧ W0.drew.cell? ⟨w.heap.size, 3, none⟩ = some (.slice an c.nights.length cn) ∧ Hid (Below W0.heap.size W0 W0.drew) := hS
    have HSS := Lib.hid hS'
    clear b0 hlt hS hcw
    have hsz0 : ∀ o, (W0.alloc o).drew.heap.size = W0.heap.size + 1 := fun o => World.size_alloc W0 o
    have hsz1 : ∀ o o2, ((W0.alloc o).alloc o2).drew.heap.size = W0.heap.size + 1 + 1 := fun o o2 => by rw [← World.size_alloc W0 o]; exact World.size_alloc (W0.alloc o) o2
    go_cut [7, 8] (fun s7 s8 wx => MidP W0 c s7 s8 wx)
    case first =>
      go_region_held3 (fun w' => w'.cell? ⟨w.heap.size, 0, none⟩ = some (.slice ar c.rooms.length cr) ∧ w'.cell? ⟨w.heap.size, 1, none⟩ = some (.slice at_ c.traps.length ct) ∧ w'.cell? ⟨w.heap.size, 2, none⟩ = some (.slice au c.runs.length cu) ∧ w'.cell? ⟨w.heap.size, 3, none⟩ = some (.slice an c.nights.length cn) ∧ Hid (Below W0.heap.size W0 w')) (first | with_reducible assumption | with_reducible exact BoxK.alloc HLT.out (BoxK.alloc HLT.out HS2.out) | with_reducible exact BoxK.alloc HLT.out HS2.out | with_reducible exact BoxK.alloc HLT.out (BoxK.store HLT.out (by first | omega | (simp; omega)) HS2.out) | with_reducible exact BoxK.store HLT.out (by first | omega | (simp; omega)) (BoxK.store HLT.out (by first | omega | (simp; omega)) HS2.out) | with_reducible exact BoxK.store HLT.out (by first | omega | (simp; omega)) HS2.out | with_reducible exact BoxK.below HLT.out (by assumption) (by assumption) | with_reducible exact BoxK.alloc HLT.out (BoxK.alloc HLT.out HS1.out) | with_reducible exact BoxK.alloc HLT.out HS1.out | with_reducible exact BoxK.allocD HLT.out (by assumption) | with_reducible exact BoxK.allocDD HLT.out (by assumption) | fail) (first | (go_at_call 7; (with_reducible refine (HOWN.out _ (by exact (by assumption : _ ∧ _ ∧ _ ∧ _ ∧ Hid _).2.2.2.2)).mono ?_); rintro e w1 ⟨r1, t1, u1, n1, rfl, hx1, hb1, hz1⟩; obtain ⟨a11, q11, a12, q12, a13, q13, a14, q14, rfl, rfl, rfl, rfl⟩ := hx1.slices; obtain ⟨hcb1, hfb1⟩ := bcell hb1; have m1 := hb1.size; (try rw [hsz0] at m1); (try rw [hsz1] at m1); (try have k1 : W0.heap.size < w1.heap.size := by omega); (try have j1 : W0.heap.size + 1 < w1.heap.size := by omega); have l1 : ∀ x, x < _ → x < w1.heap.size := fun x hx => Nat.lt_of_lt_of_le hx m1; have HX1 := Lib.hid hx1; have HS1 := Lib.hid (BoxK.below HLT.out hb1 (by assumption)); clear hx1) | (go_at_call 8; (with_reducible refine (HTHE.out _ (by exact (by assumption : _ ∧ _ ∧ _ ∧ _ ∧ Hid _).2.2.2.2)).mono ?_); rintro e w2 ⟨r2, t2, u2, n2, rfl, hx2, hb2, hz2⟩; obtain ⟨a21, q21, a22, q22, a23, q23, a24, q24, rfl, rfl, rfl, rfl⟩ := hx2.slices; obtain ⟨hcb2, hfb2⟩ := bcell hb2; have m2 := hb2.size; (try rw [hsz0] at m2); (try rw [hsz1] at m2); (try have k2 : W0.heap.size < w2.heap.size := by omega); (try have j2 : W0.heap.size + 1 < w2.heap.size := by omega); have l2 : ∀ x, x < _ → x < w2.heap.size := fun x hx => Nat.lt_of_lt_of_le hx m2; have HX2 := Lib.hid hx2; have HS2 := Lib.hid (BoxK.below HLT.out hb2 (by assumption)); clear hx2))
      all_goals
        have hB1 : Below W0.heap.size W0 w1 := HS1.out.2.2.2.2.out
        have hB2 : Below W0.heap.size W0 w2 := HS2.out.2.2.2.2.out
        have o1 := HX1.out.base hz1
        have o2 := HX2.out.base' hz2
        have o1b : OwnCol w2 W0.heap.size (.slice a11 c.rooms.length q11) (.slice a12 c.traps.length q12) (.slice a13 c.runs.length q13) (.slice a14 c.nights.length q14) c := by first | exact o1.below hb2 | exact o1.below (((Below.refl _ _).alloc (Nat.le_refl _) _).trans (hb2.mono (by simp))) | exact o1.below ((((Below.refl _ _).alloc (Nat.le_refl _) _).alloc (by simp) _).trans (hb2.mono (by simp; omega)))
        have n2 := hB2.size
        have n1 := hB1.size
        clear hcb1 hcb2 hfb1 hfb2 l1 l2 hB1
      · have HF := Lib.hid (leaf_aa o1b o2 hB2)
        clear o1 o2 o1b hB2 hb1 hb2 hz1 hz2
        go_wp2_with fail
        go_meet
        exact HF.out
      · have HF := Lib.hid (leaf_aa' o1b o2 hB2)
        clear o1 o2 o1b hB2 hb1 hb2 hz1 hz2
        go_wp2_with fail
        go_meet
        exact HF.out
      · have hp : w2.heap[w1.heap.size]? = some (.cells Z4 26 (0, 0)) := (by first | exact blk_on (heap_alloc_new _ _) hb2 | exact blk_on (keep _ (heap_alloc_new _ _)) hb2 | exact blk_on (blk _ _ _ _ (by simp)) hb2 | exact blk_on (blk_on (blkD _ _ _ _ rfl) hb1) hb2 | exact blk_on (keep _ (blk_on (blkD _ _ _ _ rfl) hb1)) hb2 | exact blk_on (blk_on (keepD _ (heap_alloc_new _ _)) hb1) hb2 | exact blk_on (blk_on (blkD _ _ _ _ (by simp)) hb1) hb2)
        have HF := Lib.hid (leaf_ba o1b o2 hB2 hp (by omega))
        clear o1 o2 o1b hB2 hb1 hb2 hz1 hz2 hp
        go_wp2_with fail
        go_meet
        exact HF.out
      · have hp : w2.heap[w1.heap.size]? = some (.cells Z4 26 (0, 0)) := (by first | exact blk_on (heap_alloc_new _ _) hb2 | exact blk_on (keep _ (heap_alloc_new _ _)) hb2 | exact blk_on (blk _ _ _ _ (by simp)) hb2 | exact blk_on (blk_on (blkD _ _ _ _ rfl) hb1) hb2 | exact blk_on (keep _ (blk_on (blkD _ _ _ _ rfl) hb1)) hb2 | exact blk_on (blk_on (keepD _ (heap_alloc_new _ _)) hb1) hb2 | exact blk_on (blk_on (blkD _ _ _ _ (by simp)) hb1) hb2)
        have hq : w2.heap[w1.heap.size + 1]? = some (.cells Z4 32 (0, 0)) := (by first | exact blk_on (heap_alloc_new _ _) hb2 | exact blk_on (keep _ (heap_alloc_new _ _)) hb2 | exact blk_on (blk _ _ _ _ (by simp)) hb2 | exact blk_on (blk_on (blkD _ _ _ _ rfl) hb1) hb2 | exact blk_on (keep _ (blk_on (blkD _ _ _ _ rfl) hb1)) hb2 | exact blk_on (blk_on (keepD _ (heap_alloc_new _ _)) hb1) hb2 | exact blk_on (blk_on (blkD _ _ _ _ (by simp)) hb1) hb2)
        have HF := Lib.hid (leaf_bb o1b o2 hB2 hp (by omega) hq (by omega))
        clear o1 o2 o1b hB2 hb1 hb2 hz1 hz2 hp hq
        go_wp2_with fail
        go_meet
        exact HF.out
      · have hq : w2.heap[w1.heap.size]? = some (.cells Z4 32 (0, 0)) := (by first | exact blk_on (heap_alloc_new _ _) hb2 | exact blk_on (keep _ (heap_alloc_new _ _)) hb2 | exact blk_on (blk _ _ _ _ (by simp)) hb2 | exact blk_on (blk_on (blkD _ _ _ _ rfl) hb1) hb2 | exact blk_on (keep _ (blk_on (blkD _ _ _ _ rfl) hb1)) hb2 | exact blk_on (blk_on (keepD _ (heap_alloc_new _ _)) hb1) hb2 | exact blk_on (blk_on (blkD _ _ _ _ (by simp)) hb1) hb2)
        have HF := Lib.hid (leaf_ab o1b o2 hB2 hq (by omega))
        clear o1 o2 o1b hB2 hb1 hb2 hz1 hz2 hq
        go_wp2_with fail
        go_meet
        exact HF.out
      · have hp : w2.heap[w1.heap.size + 1]? = some (.cells Z4 26 (0, 0)) := (by first | exact blk_on (heap_alloc_new _ _) hb2 | exact blk_on (keep _ (heap_alloc_new _ _)) hb2 | exact blk_on (blk _ _ _ _ (by simp)) hb2 | exact blk_on (blk_on (blkD _ _ _ _ rfl) hb1) hb2 | exact blk_on (keep _ (blk_on (blkD _ _ _ _ rfl) hb1)) hb2 | exact blk_on (blk_on (keepD _ (heap_alloc_new _ _)) hb1) hb2 | exact blk_on (blk_on (blkD _ _ _ _ (by simp)) hb1) hb2)
        have hq : w2.heap[w1.heap.size]? = some (.cells Z4 32 (0, 0)) := (by first | exact blk_on (heap_alloc_new _ _) hb2 | exact blk_on (keep _ (heap_alloc_new _ _)) hb2 | exact blk_on (blk _ _ _ _ (by simp)) hb2 | exact blk_on (blk_on (blkD _ _ _ _ rfl) hb1) hb2 | exact blk_on (keep _ (blk_on (blkD _ _ _ _ rfl) hb1)) hb2 | exact blk_on (blk_on (keepD _ (heap_alloc_new _ _)) hb1) hb2 | exact blk_on (blk_on (blkD _ _ _ _ (by simp)) hb1) hb2)
        have HF := Lib.hid (leaf_bb o1b o2 hB2 hp (by omega) hq (by omega))
        clear o1 o2 o1b hB2 hb1 hb2 hz1 hz2 hp hq
        go_wp2_with fail
        go_meet
        exact HF.out
      · have hp : w2.heap[W0.heap.size]? = some (.cells Z4 26 (0, 0)) := (by first | exact blk_on (heap_alloc_new _ _) hb2 | exact blk_on (keep _ (heap_alloc_new _ _)) hb2 | exact blk_on (blk _ _ _ _ (by simp)) hb2 | exact blk_on (blk_on (blkD _ _ _ _ rfl) hb1) hb2 | exact blk_on (keep _ (blk_on (blkD _ _ _ _ rfl) hb1)) hb2 | exact blk_on (blk_on (keepD _ (heap_alloc_new _ _)) hb1) hb2 | exact blk_on (blk_on (blkD _ _ _ _ (by simp)) hb1) hb2)
        have HF := Lib.hid (leaf_ba o1b o2 hB2 hp (by omega))
        clear o1 o2 o1b hB2 hb1 hb2 hz1 hz2 hp
        go_wp2_with fail
        go_meet
        exact HF.out
      · have hp : w2.heap[W0.heap.size]? = some (.cells Z4 26 (0, 0)) := (by first | exact blk_on (heap_alloc_new _ _) hb2 | exact blk_on (keep _ (heap_alloc_new _ _)) hb2 | exact blk_on (blk _ _ _ _ (by simp)) hb2 | exact blk_on (blk_on (blkD _ _ _ _ rfl) hb1) hb2 | exact blk_on (keep _ (blk_on (blkD _ _ _ _ rfl) hb1)) hb2 | exact blk_on (blk_on (keepD _ (heap_alloc_new _ _)) hb1) hb2 | exact blk_on (blk_on (blkD _ _ _ _ (by simp)) hb1) hb2)
        have hq : w2.heap[w1.heap.size]? = some (.cells Z4 32 (0, 0)) := (by first | exact blk_on (heap_alloc_new _ _) hb2 | exact blk_on (keep _ (heap_alloc_new _ _)) hb2 | exact blk_on (blk _ _ _ _ (by simp)) hb2 | exact blk_on (blk_on (blkD _ _ _ _ rfl) hb1) hb2 | exact blk_on (keep _ (blk_on (blkD _ _ _ _ rfl) hb1)) hb2 | exact blk_on (blk_on (keepD _ (heap_alloc_new _ _)) hb1) hb2 | exact blk_on (blk_on (blkD _ _ _ _ (by simp)) hb1) hb2)
        have HF := Lib.hid (leaf_bb o1b o2 hB2 hp (by omega) hq (by omega))
        clear o1 o2 o1b hB2 hb1 hb2 hz1 hz2 hp hq
        go_wp2_with fail
        go_meet
        exact HF.out
      · have hp : w2.heap[W0.heap.size]? = some (.cells Z4 26 (0, 0)) := (by first | exact blk_on (heap_alloc_new _ _) hb2 | exact blk_on (keep _ (heap_alloc_new _ _)) hb2 | exact blk_on (blk _ _ _ _ (by simp)) hb2 | exact blk_on (blk_on (blkD _ _ _ _ rfl) hb1) hb2 | exact blk_on (keep _ (blk_on (blkD _ _ _ _ rfl) hb1)) hb2 | exact blk_on (blk_on (keepD _ (heap_alloc_new _ _)) hb1) hb2 | exact blk_on (blk_on (blkD _ _ _ _ (by simp)) hb1) hb2)
        have hq : w2.heap[W0.heap.size + 1]? = some (.cells Z4 32 (0, 0)) := (by first | exact blk_on (heap_alloc_new _ _) hb2 | exact blk_on (keep _ (heap_alloc_new _ _)) hb2 | exact blk_on (blk _ _ _ _ (by simp)) hb2 | exact blk_on (blk_on (blkD _ _ _ _ rfl) hb1) hb2 | exact blk_on (keep _ (blk_on (blkD _ _ _ _ rfl) hb1)) hb2 | exact blk_on (blk_on (keepD _ (heap_alloc_new _ _)) hb1) hb2 | exact blk_on (blk_on (blkD _ _ _ _ (by simp)) hb1) hb2)
        have HF := Lib.hid (leaf_bb o1b o2 hB2 hp (by omega) hq (by omega))
        clear o1 o2 o1b hB2 hb1 hb2 hz1 hz2 hp hq
        go_wp2_with fail
        go_meet
        exact HF.out
      · have hq : w2.heap[W0.heap.size]? = some (.cells Z4 32 (0, 0)) := (by first | exact blk_on (heap_alloc_new _ _) hb2 | exact blk_on (keep _ (heap_alloc_new _ _)) hb2 | exact blk_on (blk _ _ _ _ (by simp)) hb2 | exact blk_on (blk_on (blkD _ _ _ _ rfl) hb1) hb2 | exact blk_on (keep _ (blk_on (blkD _ _ _ _ rfl) hb1)) hb2 | exact blk_on (blk_on (keepD _ (heap_alloc_new _ _)) hb1) hb2 | exact blk_on (blk_on (blkD _ _ _ _ (by simp)) hb1) hb2)
        have HF := Lib.hid (leaf_ab o1b o2 hB2 hq (by omega))
        clear o1 o2 o1b hB2 hb1 hb2 hz1 hz2 hq
        go_wp2_with fail
        go_meet
        exact HF.out
      · have hp : w2.heap[w1.heap.size]? = some (.cells Z4 26 (0, 0)) := (by first | exact blk_on (heap_alloc_new _ _) hb2 | exact blk_on (keep _ (heap_alloc_new _ _)) hb2 | exact blk_on (blk _ _ _ _ (by simp)) hb2 | exact blk_on (blk_on (blkD _ _ _ _ rfl) hb1) hb2 | exact blk_on (keep _ (blk_on (blkD _ _ _ _ rfl) hb1)) hb2 | exact blk_on (blk_on (keepD _ (heap_alloc_new _ _)) hb1) hb2 | exact blk_on (blk_on (blkD _ _ _ _ (by simp)) hb1) hb2)
        have hq : w2.heap[W0.heap.size]? = some (.cells Z4 32 (0, 0)) := (by first | exact blk_on (heap_alloc_new _ _) hb2 | exact blk_on (keep _ (heap_alloc_new _ _)) hb2 | exact blk_on (blk _ _ _ _ (by simp)) hb2 | exact blk_on (blk_on (blkD _ _ _ _ rfl) hb1) hb2 | exact blk_on (keep _ (blk_on (blkD _ _ _ _ rfl) hb1)) hb2 | exact blk_on (blk_on (keepD _ (heap_alloc_new _ _)) hb1) hb2 | exact blk_on (blk_on (blkD _ _ _ _ (by simp)) hb1) hb2)
        have HF := Lib.hid (leaf_bb o1b o2 hB2 hp (by omega) hq (by omega))
        clear o1 o2 o1b hB2 hb1 hb2 hz1 hz2 hp hq
        go_wp2_with fail
        go_meet
        exact HF.out
      · have hp : w2.heap[W0.heap.size + 1]? = some (.cells Z4 26 (0, 0)) := (by first | exact blk_on (heap_alloc_new _ _) hb2 | exact blk_on (keep _ (heap_alloc_new _ _)) hb2 | exact blk_on (blk _ _ _ _ (by simp)) hb2 | exact blk_on (blk_on (blkD _ _ _ _ rfl) hb1) hb2 | exact blk_on (keep _ (blk_on (blkD _ _ _ _ rfl) hb1)) hb2 | exact blk_on (blk_on (keepD _ (heap_alloc_new _ _)) hb1) hb2 | exact blk_on (blk_on (blkD _ _ _ _ (by simp)) hb1) hb2)
        have hq : w2.heap[W0.heap.size]? = some (.cells Z4 32 (0, 0)) := (by first | exact blk_on (heap_alloc_new _ _) hb2 | exact blk_on (keep _ (heap_alloc_new _ _)) hb2 | exact blk_on (blk _ _ _ _ (by simp)) hb2 | exact blk_on (blk_on (blkD _ _ _ _ rfl) hb1) hb2 | exact blk_on (keep _ (blk_on (blkD _ _ _ _ rfl) hb1)) hb2 | exact blk_on (blk_on (keepD _ (heap_alloc_new _ _)) hb1) hb2 | exact blk_on (blk_on (blkD _ _ _ _ (by simp)) hb1) hb2)
        have HF := Lib.hid (leaf_bb o1b o2 hB2 hp (by omega) hq (by omega))
        clear o1 o2 o1b hB2 hb1 hb2 hz1 hz2 hp hq
        go_wp2_with fail
        go_meet
        exact HF.out
    case rest =>
      obtain ⟨p, q, r1, t1, u1, n1, r2, t2, u2, n2, rfl, rfl, hp, hq, o1, o2, hB⟩ := hcut
      obtain ⟨a11, q11, a12, q12, a13, q13, a14, q14, rfl, rfl, rfl, rfl⟩ := o1.slices
      obtain ⟨a21, q21, a22, q22, a23, q23, a24, q24, rfl, rfl, rfl, rfl⟩ := o2.slices
      have hL : LawAt w wc p q (.slice ar c.rooms.length cr) (.slice at_ c.traps.length ct) (.slice au c.runs.length cu) (.slice an c.nights.length cn) _ _ _ _ _ _ _ _ c := ⟨hp, hq, blk_on (blk_on HX.out H0.out) hB, ((HC.out.on H0.out).on hB), o1.col HSH.out, o2.col HSH.out, HB.out.trans ((H0.out.trans (hB.mono H0.out.size)).mono HB.out.size)⟩
      have L0 := Lib.hid hL
      clear hp hq o1 o2 hB hL HOWN HTHE HSS HSH H0 HC HX HB HLO HLT hsz0 hsz1
      obtain ⟨x0, x1, x2, x3⟩ := four_cells L0.out.hp
      have HCON := Lib.hid ((reaches_both c _ _ _ _ hs re wc L0.out.own).1)
      go_wp2_with fail
      refine HCON.out.mono ?_
      rintro e w1 ⟨v1, rfl, hv1, hb1⟩
      have L1 := Lib.hid (L0.out.on hb1)
      have HV1 := Lib.hid hv1
      clear hv1 hb1 L0 HCON x0 x1 x2 x3
      obtain ⟨x0, x1, x2, x3⟩ := four_cells L1.out.hq
      have HCON := Lib.hid ((reaches_both c _ _ _ _ hs re w1 L1.out.ref).2)
      go_wp2_with fail
      refine HCON.out.mono ?_
      rintro e w2 ⟨v2, rfl, hv2, hb2⟩
      have L2 := Lib.hid (L1.out.on hb2)
      have hal := alike_any _ _ _ _ w2 (HV1.out.on hb2) hv2
      simp only [decide_true] at hal
      have HAL := Lib.hid hal
      clear hb2 L1 HCON x0 x1 x2 x3 hv2 hal HV1
      go_wp2_with fail
      refine HAL.out.mono ?_
      rintro e w2' ⟨rfl, rfl⟩
      clear HAL
      obtain ⟨x0, x1, x2, x3⟩ := four_cells L2.out.hp
      have HCON := Lib.hid ((baits_both c _ _ _ _ re w2 L2.out.own).1)
      go_wp2_with fail
      refine HCON.out.mono ?_
      rintro e w3 ⟨v3, rfl, hv3, hb3⟩
      have L3 := Lib.hid (L2.out.on hb3)
      have HV3 := Lib.hid hv3
      clear hv3 hb3 L2 HCON x0 x1 x2 x3
      obtain ⟨x0, x1, x2, x3⟩ := four_cells L3.out.hq
      have HCON := Lib.hid ((baits_both c _ _ _ _ re w3 L3.out.ref).2)
      go_wp2_with fail
      refine HCON.out.mono ?_
      rintro e w4 ⟨v4, rfl, hv4, hb4⟩
      have L4 := Lib.hid (L3.out.on hb4)
      have hal := alike_any _ _ _ _ w4 (HV3.out.on hb4) hv4
      simp only [decide_true] at hal
      have HAL := Lib.hid hal
      clear hb4 L3 HCON x0 x1 x2 x3 hv4 hal HV3
      go_wp2_with fail
      refine HAL.out.mono ?_
      rintro e w4' ⟨rfl, rfl⟩
      clear HAL
      obtain ⟨x0, x1, x2, x3⟩ := four_cells L4.out.hp
      have HCON := Lib.hid ((apart_both c _ _ _ _ re w4 L4.out.own).1)
      go_wp2_with fail
      refine HCON.out.mono ?_
      rintro e w5 ⟨v5, rfl, hv5, hb5⟩
      have L5 := Lib.hid (L4.out.on hb5)
      have HV5 := Lib.hid hv5
      clear hv5 hb5 L4 HCON x0 x1 x2 x3
      obtain ⟨x0, x1, x2, x3⟩ := four_cells L5.out.hq
      have HCON := Lib.hid ((apart_both c _ _ _ _ re w5 L5.out.ref).2)
      go_wp2_with fail
      refine HCON.out.mono ?_
      rintro e w6 ⟨v6, rfl, hv6, hb6⟩
      have L6 := Lib.hid (L5.out.on hb6)
      have hal := alike_any _ _ _ _ w6 (HV5.out.on hb6) hv6
      simp only [decide_true] at hal
      have HAL := Lib.hid hal
      clear hb6 L5 HCON x0 x1 x2 x3 hv6 hal HV5
      obtain ⟨x0, x1, x2, x3⟩ := four_cells L6.out.hp
      obtain ⟨y0, y1, y2, y3⟩ := four_cells L6.out.box
      have HSA := Lib.hid (same_any c _ _ _ _ _ _ _ _ _ L6.out.own L6.out.arg)
      go_wp2_with fail
      refine HAL.out.mono ?_
      rintro e w6' ⟨rfl, rfl⟩
      clear HAL
      go_wp2_with fail
      refine HSA.out.mono ?_
      rintro e w12 ⟨rfl, hb12⟩
      have L12 := Lib.hid (L6.out.below.trans (hb12.mono L6.out.below.size))
      clear hb12 L6 HSA x0 x1 x2 x3 y0 y1 y2 y3
      go_wp2_with fail
      refine (awake_any w12).mono ?_
      rintro e w13 ⟨rfl, hb13⟩
      have L13 := Lib.hid (L12.out.trans (hb13.mono L12.out.size))
      clear hb13 L12
      go_wp2_with fail
      go_ret
      exact ⟨rfl, L13.out⟩
end Go.Proofs.YtnhifinfjfpoiaaGreat

namespace Go.Proofs.YtnhifinfjfpoiaaGreat
open Go.RowKit Go.ChangeShapes Go.WideShapes Go.ChangeAt

theorem ownKnob_none : ownKnob Tryz.prog.godebug = none := by kernel_rfl
theorem laidOut_yes : laidOutB Tryz.prog = true := by kernel_rfl

set_option maxRecDepth 100000 in
theorem ratBaits_lifted (os : Os) (started : os.Started) (H : Type) (enc : TypeId × Value → H) :
    ReturnsInHanded {} Tryz.checked os 3 .any (Rows.ratBaitsSpec.pre6 enc Tryz.prog Tryz.f3 Rows.ratBaitsRow.domain false) (Rows.ratBaitsSpec.post enc Tryz.prog Tryz.f3 false true false false) := by
  refine returnsInHanded_of_change_sized (C := Tryz.checked) ownKnob_none started (by kernel_rfl) Tryz.func3
    (ChangeSpec.witness6 (enc := enc) (C := Tryz.checked) false ⟨#[], #[.agg #[.slice none 0 0, .slice none 0 0, .slice none 0 0, .slice none 0 0], .int .i64 0, .int .i64 0], []⟩ 8 (by kernel_rfl) (by kernel_rfl) (by kernel_rfl) (by kernel_rfl)) ?_
  intro W base args ds gs before hval0 hW0 _ hsz0 _
  have hval : ∀ (j : Nat) t v, Tryz.f3.params[j]? = some t → args[j]? = some v → Value.okWide Tryz.prog W .any base t v := hval0
  have hsz : (DataW.weightsEach Tryz.prog (Tryz.f3.params.toList ++ Rows.ratBaitsSpec.plain.varTypes Tryz.prog) (ds ++ gs)).all (· ≤ reachBytes) = true := hsz0
  have hW := hW0
  obtain ⟨p, q, hA0, hV, rfl, hfz, hnd⟩ := hW
  have hA : DataW.TrodAll enc Tryz.prog W 0 (fun _ => true) true Tryz.f3.params.toList args.toList ds p := hA0
  rw [Tryz.params3] at hA hval hsz
  obtain ⟨v0, v1, v2, d0, d1, d2, p0, p1, p2, rfl, rfl, rfl, h0, h1, h2⟩ := trodAll_three hA
  obtain ⟨rfl, rfl⟩ := trodVars_none hV
  have k0 := h0
  have k1 := h1
  have k2 := h2
  obtain ⟨r, t, u, n, c, rfl, hc⟩ := open_col (hval 0 _ v0 rfl rfl) h0 (fun m hm => by
    have := List.all_eq_true.1 hsz m (DataW.weights_mem_each (j := 0) rfl rfl m hm)
    simpa using this)
  obtain ⟨a1, rfl, rfl, rfl, wa1⟩ := open_int Tryz.underlying3 (hval 1 _ v1 rfl rfl) h1
  obtain ⟨a2, rfl, rfl, rfl, wa2⟩ := open_int Tryz.underlying3 (hval 2 _ v2 rfl rfl) h2
  refine (ratBaits_any c r t u n a1 a2 W hc).mono fun e W' ⟨he, hb⟩ => ?_
  subst he
  have hlt0 : ∀ x ∈ p0, x.block < W.heap.size := fun x hx => hW0.lt x (by simp [hx])
  have s0 := Below.trod laidOut_yes (by kernel_rfl) (of_decide_eq_true (by kernel_rfl)) k0 hb hlt0
  exact ⟨_, rfl, _, _, _, [], _, _, hW0, trodAll_mk1 (shut_bool Tryz.underlying4 true), trodAll_mk3 s0 (shut_int Tryz.underlying3 wa1) (shut_int Tryz.underlying3 wa2), rfl, hb.frame _, fun h => by cases h⟩

theorem ratBaits_holds : Rows.RatBaitsSaid :=
  OpenClaim.holds_of_wide 3 Tryz.f3 rfl rfl rfl rfl rfl rfl rfl ⟨rfl, rfl, rfl, rfl, rfl⟩ rfl rfl rfl rfl rfl (by kernel_rfl) Tryz.func3 (by kernel_rfl)
    (of_decide_eq_true (by kernel_rfl)) (by unfold Func.isWrapper; first | (rw [if_pos (by decide +kernel)]; kernel_rfl) | (rw [if_neg (by decide +kernel)]; exact ⟨rfl, rfl⟩))
    (fun os started H enc _ => ratBaits_lifted os started H enc)
end Go.Proofs.YtnhifinfjfpoiaaGreat
