/- Contracts of the copies of lists: numbers, runs, rows. A row of one's own stays as it is where a block of another type turns. Contract of Own: a colony of its own. Contract of theirs: a colony of the reference's. Contracts of wide, long and same. -/
import Derived.Test.YtnhifinfjfpoiaaGreatK09
import Derived.Deep.RegionHeld3
import Derived.Deep.DeepCutAuto
import Derived.Deep.AppendLies
import Derived.Deep.DeepMust
namespace Go.Proofs.YtnhifinfjfpoiaaGreat
open Go.RowKit
set_option linter.unusedVariables false

theorem owns_grown {W W' : World} {b e sz n : Nat} {v : Value} {xs : List Value} {row : Option Nat} (h : W.ownsRow b e sz v n xs) (hg : W.grownBy W' row) (hne : ∀ g cs, W.heap[g]? = some (.cells cs e (0, 0)) → some g ≠ row) : W'.ownsRow b e sz v n xs := by
  obtain ⟨hl, h | ⟨g, cap, cur, rfl, hb, hc, hn, hm, hs, ht⟩⟩ := h
  · exact ⟨hl, .inl h⟩
  · exact ⟨hl, .inr ⟨g, cap, cur, rfl, hb, (hg.block g (Array.getElem?_eq_some_iff.1 hc).1 (hne g cur hc)).trans hc, hn, hm, hs, ht⟩⟩

set_option maxRecDepth 100000 in
set_option maxHeartbeats 1000000 in
theorem copyI_any (xs : List Int) (v : Value) (w : World) (h : IsInts w w.heap.size v xs) (h100 : xs.length ≤ 100) :
    Calls Tryz.prog 37 #[v] w fun e w' => ∃ v', e = .returned v' ∧ w'.ownsRow w.heap.size 3 1 v' xs.length (intsV xs) ∧ Below w.heap.size w w' := by
  obtain ⟨a, c, rfl, _, _, h3⟩ := h.open
  obtain ⟨i0, hi, hz0, hz1, hz2⟩ := info_parts infoInt
  have H3 := Lib.hid h3
  clear h h3
  rcases Nat.eq_zero_or_pos xs.length with h0 | h0
  · have hx : xs = [] := List.length_eq_zero_iff.1 h0
    subst hx
    simp only [List.length_nil] at *
    go_enter Tryz.func37, Tryz.ntmps37
    go_wp2_with fail
    go_ret
    exact ⟨_, rfl, World.ownsRow_nil _ _ _ _, Below.refl _ _⟩
  · have hne : (xs.length == 0) = false := beq_eq_false_iff_ne.2 (by omega)
    have hnz : ¬ (xs.length : Int) = 0 := by omega
    obtain ⟨b, off, rfl, hb, _⟩ := H3.out 0 h0
    go_enter Tryz.func37, Tryz.ntmps37
    go_wp2_with (at_builtin; refine wpList_append_own _ rfl _ _ 22 rfl w.heap.size 3 i0 (.int .i64 0) 1 8 Tryz.underlying22 hi hz0 hz1 hz2 rfl (by decide) _ _ _ rfl (World.ownsRow_made w #[] 0 (Nat.le_refl _) (Nat.zero_le _) rfl) ⟨b, off, none⟩ xs.length c (intsV xs) rfl ?qc1 ?qc2 ?qc3 ?qc4 ?qc5 ?qc6 ?_)
    case qc1 => simp [intsV]
    case qc2 =>
      intro j u hj
      have hjn : j < xs.length := by
        have := (List.getElem?_eq_some_iff.1 hj).1
        simpa [intsV] using this
      obtain ⟨b', off', e', _, hcell⟩ := H3.out j hjn
      cases e'
      rw [Addr.add_lit]
      refine Lib.cell?_alloc_some _ ?_
      rw [hcell, ← hj]
      simp [intsV, nth, hjn]
    case qc3 => intro u hu; obtain ⟨x, _, rfl⟩ := List.mem_map.1 hu; rfl
    case qc4 => unfold maxLen; omega
    case qc5 => omega
    case qc6 => simp
    intro v' w1 hown hgrow hnil
    have HO := Lib.hid hown; have HG := Lib.hid hgrow
    clear hown hgrow hnil
    go_wp2_with fail
    go_ret
    refine ⟨v', rfl, by simpa using HO.out, ?_⟩
    exact ((Below.refl _ w).alloc (Nat.le_refl _) _).grown HG.out (by simp) (by intro k hk; simp [Value.ownBlock] at hk; omega)

theorem infoRun : (Tryz.prog.info? 48).map (fun i => (i.zero, i.size, i.bytes)) = some (some (.agg #[.int .i64 0, .int .i64 0]), 2, 16) := by kernel_rfl
set_option maxRecDepth 100000 in
set_option maxHeartbeats 1000000 in
theorem copyR_any (xs : List (Int × Int)) (v : Value) (w : World) (h : IsPairs w w.heap.size v xs) (h100 : xs.length ≤ 100) :
    Calls Tryz.prog 38 #[v] w fun e w' => ∃ v', e = .returned v' ∧ w'.ownsRow w.heap.size 48 2 v' xs.length (pairsV xs) ∧ Below w.heap.size w w' := by
  obtain ⟨a, c, rfl, _, _, h3⟩ := h.open
  obtain ⟨i0, hi, hz0, hz1, hz2⟩ := info_parts infoRun
  have H3 := Lib.hid h3
  clear h h3
  rcases Nat.eq_zero_or_pos xs.length with h0 | h0
  · have hx : xs = [] := List.length_eq_zero_iff.1 h0
    subst hx
    simp only [List.length_nil] at *
    go_enter Tryz.func38, Tryz.ntmps38
    go_wp2_with fail
    go_ret
    exact ⟨_, rfl, World.ownsRow_nil _ _ _ _, Below.refl _ _⟩
  · have hne : (xs.length == 0) = false := beq_eq_false_iff_ne.2 (by omega)
    have hnz : ¬ (xs.length : Int) = 0 := by omega
    obtain ⟨b, off, rfl, hb, _⟩ := H3.out 0 h0
    go_enter Tryz.func38, Tryz.ntmps38
    go_wp2_with (at_builtin; refine wpList_append_own _ rfl _ _ 23 rfl w.heap.size 48 i0 (.agg #[.int .i64 0, .int .i64 0]) 2 16 Tryz.underlying23 hi hz0 hz1 hz2 rfl (by decide) _ _ _ rfl (World.ownsRow_made w #[] 0 (Nat.le_refl _) (Nat.zero_le _) rfl) ⟨b, off, none⟩ xs.length c (pairsV xs) rfl ?qc1 ?qc2 ?qc3 ?qc4 ?qc5 ?qc6 ?_)
    case qc1 => exact pairsV_len xs
    case qc2 =>
      intro j u hj
      have hjn : j < xs.length * 2 := by
        have := (List.getElem?_eq_some_iff.1 hj).1
        rwa [pairsV_len] at this
      obtain ⟨b', off', e', _, m1, m2⟩ := H3.out (j / 2) (by omega)
      cases e'
      rw [Addr.add_lit]
      refine Lib.cell?_alloc_some _ ?_
      rw [pairsV_get xs j hjn] at hj
      rw [← hj]
      unfold pcell
      by_cases q : j % 2 = 0
      · rw [if_pos q, show off + j = off + j / 2 * 2 from by omega]; exact m1
      · rw [if_neg q, show off + j = off + j / 2 * 2 + 1 from by omega]; exact m2
    case qc3 =>
      intro u hu
      obtain ⟨x, _, hx⟩ := List.mem_flatMap.1 hu
      simp at hx
      rcases hx with rfl | rfl <;> rfl
    case qc4 => unfold maxLen; omega
    case qc5 => omega
    case qc6 => simp
    intro v' w1 hown hgrow hnil
    have HO := Lib.hid hown; have HG := Lib.hid hgrow
    clear hown hgrow hnil
    go_wp2_with fail
    go_ret
    refine ⟨v', rfl, by simpa using HO.out, ?_⟩
    exact ((Below.refl _ w).alloc (Nat.le_refl _) _).grown HG.out (by simp) (by intro k hk; simp [Value.ownBlock] at hk; omega)

theorem infoRow : (Tryz.prog.info? 22).map (fun i => (i.zero, i.size, i.bytes)) = some (some (.slice none 0 0), 1, 24) := by kernel_rfl
/-- A list of rows, each in memory of its own. -/
def OwnRows (w : World) (B : Nat) (v : Value) (rows : List (List Int)) : Prop :=
  ∃ vs : List Value, w.ownsRow B 22 1 v rows.length vs ∧ ∀ j, j < rows.length → w.ownsRow B 3 1 (vs.getD j (.slice none 0 0)) (nthR rows j).length (intsV (nthR rows j))
theorem OwnRows.below {w w' : World} {B : Nat} {v : Value} {rows : List (List Int)} (h : OwnRows w B v rows) (hb : Below w.heap.size w w') : OwnRows w' B v rows := by
  obtain ⟨vs, h1, h2⟩ := h
  exact ⟨vs, owns_below h1 hb, fun j hj => owns_below (h2 j hj) hb⟩
theorem OwnRows.rows {w : World} {B : Nat} {v : Value} {rows : List (List Int)} (h : OwnRows w B v rows) (hl : rows.length ≤ 100) (hr : ∀ r ∈ rows, r.length ≤ 100 ∧ ∀ x ∈ r, I64 x) : IsRows w w.heap.size v rows := by
  obtain ⟨vs, ⟨hvl, h1⟩, h2⟩ := h
  refine ⟨fun j => vs.getD j (.slice none 0 0), ?_, fun j hj => nums_of_owns (h2 j hj) (hr _ (nthR_mem hj)).2 (by have := (hr _ (nthR_mem hj)).1; omega)⟩
  rcases h1 with ⟨rfl, hn⟩ | ⟨g, cap, cur, rfl, hg, hc, hn, hm, hs, ht⟩
  · exact ⟨none, 0, by rw [hn], by omega, by omega, .inl hn⟩
  · refine ⟨some ⟨g, 0, none⟩, cap, rfl, hn, by omega, .inr ⟨g, 0, rfl, (Array.getElem?_eq_some_iff.1 hc).1, fun j hj => ?_⟩⟩
    refine (cell_of_row w g (0 + j) _ _ _ hc).trans ?_
    rw [Nat.mul_one] at ht hj hvl
    have this : j < cur.toList.length := by simp; omega
    have e2 : (List.take rows.length cur.toList).getD j (.slice none 0 0) = cur.toList[j]'this := by rw [List.getD_eq_getElem?_getD, List.getElem?_take, if_pos hj, List.getElem?_eq_getElem this]; rfl
    rw [Nat.zero_add, ← Array.getElem?_toList, ← ht]
    show _ = some ((List.take rows.length cur.toList).getD j (.slice none 0 0))
    rw [e2, List.getElem?_eq_getElem this]

set_option maxRecDepth 100000 in
set_option maxHeartbeats 1000000 in
theorem copyRows_any (rows : List (List Int)) (v : Value) (w : World) (h : IsRows w w.heap.size v rows) (h100 : rows.length ≤ 100) (hr100 : ∀ r ∈ rows, r.length ≤ 100) :
    Calls Tryz.prog 39 #[v] w fun e w' => ∃ v', e = .returned v' ∧ OwnRows w' w.heap.size v' rows ∧ Below w.heap.size w w' := by
  obtain ⟨a, c, rfl, _, _, h3⟩ := h.open
  obtain ⟨i0, hi, hz0, hz1, hz2⟩ := info_parts infoRow
  have H3 := Lib.hid h3
  have HR := Lib.hid hr100
  clear h h3 hr100
  go_enter Tryz.func39, Tryz.ntmps39
  go_wp2_with fail
  go_loopw [3, 8] (fun o i wr => ∃ k : Nat, k ≤ rows.length ∧ i = .int .i64 k ∧ Hid (OwnRows wr w.heap.size o (rows.take k) ∧ Below w.heap.size w wr)) (fun _ i _ => rows.length - (intOf i).toNat)
  case atStart => exact ⟨0, Nat.zero_le _, rfl, ⟨[], World.ownsRow_nil _ _ _ _, fun j hj => by simp at hj⟩, Below.refl _ _⟩
  case round =>
    obtain ⟨k, hk, rfl, hrel⟩ := hrel
    by_cases hlt : k < rows.length
    · have hki : (k : Int) < rows.length := by omega
      obtain ⟨b, off, u, rfl, hbl, hcell, hru⟩ := H3.out k hlt
      have m1 := (hrel.out.2.cell (p := ⟨b, off + k, none⟩) hbl).trans hcell
      have HCP := Lib.hid (copyI_any _ _ wr ((hru.below hrel.out.2 (Nat.le_refl _)).mono hrel.out.2.size) (HR.out _ (nthR_mem hlt)))
      obtain ⟨_, _, rfl, _⟩ := hru.open
      obtain ⟨vs, hvs1, hvs2⟩ := hrel.out.1
      have hlen : (rows.take k).length = k := by simp; omega
      rw [hlen] at hvs1 hvs2
      have hsz := hrel.out.2.size
      have HV := Lib.hid (And.intro hvs1 hvs2)
      clear hcell hru hvs1 hvs2 hlen
      go_wp2_with fail
      refine HCP.out.mono ?_
      rintro e w1 ⟨x, rfl, hx, hb1⟩
      obtain ⟨ax, cx, rfl⟩ := owns_slice hx
      have hsz1 := hb1.size
      have HO := Lib.hid ((owns_below HV.out.1 hb1).alloc (.cells #[.slice ax (nthR rows k).length cx] 22))
      have HX := Lib.hid (And.intro hx hb1)
      clear hx hb1 HCP
      go_wp2_with (at_builtin; refine wpList_append_own _ rfl _ _ 24 rfl w.heap.size 22 i0 (.slice none 0 0) 1 24 Tryz.underlying24 hi hz0 hz1 hz2 rfl (by decide) _ _ _ rfl HO.out ⟨w1.heap.size, 0, none⟩ 1 1 [.slice ax (nthR rows k).length cx] rfl rfl (cell_one_new _ _ _) (fun y hy => by simp at hy; subst hy; rfl) (by unfold maxLen; omega) (by omega) (by simp; omega) ?_; intro v' w2 hown' hgrow _; have HG := Lib.hid (And.intro hown' hgrow); clear hown' hgrow)
      obtain ⟨hown', hgrow⟩ := HG.out
      obtain ⟨hx, hb1⟩ := HX.out
      have hbA : Below w.heap.size w (w1.alloc (.cells #[.slice ax (nthR rows k).length cx] 22)) := (hrel.out.2.trans (hb1.mono hsz)).alloc (by omega) _
      have hbA1 : Below w1.heap.size w1 (w1.alloc (.cells #[.slice ax (nthR rows k).length cx] 22)) := (Below.refl _ _).alloc (Nat.le_refl _) _
      have hkeep : ∀ {y : Value} {n : Nat} {xs : List Value}, w1.ownsRow w.heap.size 3 1 y n xs → w2.ownsRow w.heap.size 3 1 y n xs := fun {y n xs} hy =>
        owns_grown (owns_below hy hbA1) hgrow (fun g cs hg => not_own HO.out hg (by decide))
      have hnew : OwnRows w2 w.heap.size v' (rows.take (k + 1)) := by
        have hl1 : (rows.take (k + 1)).length = k + 1 := by simp; omega
        refine ⟨vs ++ [.slice ax (nthR rows k).length cx], by rw [hl1]; exact hown', fun j hj => ?_⟩
        rw [hl1] at hj
        have hvl : vs.length = k := by have := HV.out.1.1; simpa using this
        have e1 : nthR (rows.take (k + 1)) j = nthR rows j := by
          unfold nthR
          rw [List.getD_eq_getElem?_getD, List.getD_eq_getElem?_getD, List.getElem?_take, if_pos hj]
        rw [e1]
        by_cases q : j < k
        · have e2 : nthR (rows.take k) j = nthR rows j := by
            unfold nthR
            rw [List.getD_eq_getElem?_getD, List.getD_eq_getElem?_getD, List.getElem?_take, if_pos q]
          have h5 := HV.out.2 j q
          rw [e2] at h5
          have e3 : (vs ++ [Value.slice ax (nthR rows k).length cx]).getD j (.slice none 0 0) = vs.getD j (.slice none 0 0) := by
            rw [List.getD_eq_getElem?_getD, List.getD_eq_getElem?_getD, List.getElem?_append_left (by omega)]
          rw [e3]
          exact hkeep (owns_below h5 hb1)
        · obtain rfl : j = k := by omega
          have e3 : (vs ++ [Value.slice ax (nthR rows j).length cx]).getD j (.slice none 0 0) = .slice ax (nthR rows j).length cx := by
            rw [List.getD_eq_getElem?_getD, List.getElem?_append_right (by omega), hvl]; simp
          rw [e3]
          have hx2 : w1.ownsRow w.heap.size 3 1 (.slice ax (nthR rows j).length cx) (nthR rows j).length (intsV (nthR rows j)) := by
            obtain ⟨hl, q | ⟨g, cap, cur, e, hg, hr⟩⟩ := hx
            · exact ⟨hl, .inl q⟩
            · exact ⟨hl, .inr ⟨g, cap, cur, e, by omega, hr⟩⟩
          exact hkeep hx2
      have hB2 := below_grown hbA hgrow (fun r hr => (HO.out.lt r hr).1) (by simp; omega)
      have HN := Lib.hid (And.intro hnew hB2)
      clear hnew hB2 hown' hgrow hx hb1 hbA hbA1 hkeep
      go_wp2_with fail
      go_roundw
      case rel => exact ⟨k + 1, by omega, by go_num, HN.out⟩
      case measure => simp [intOf]; omega
    · obtain rfl : k = rows.length := by omega
      rw [List.take_length] at hrel
      go_wp2_with fail
      go_ret
      exact ⟨_, rfl, hrel.out⟩
end Go.Proofs.YtnhifinfjfpoiaaGreat

namespace Go.Proofs.YtnhifinfjfpoiaaGreat
open Go.RowKit
set_option linter.unusedVariables false

theorem owns_set_ty {W : World} {b e sz n p o t : Nat} {v u : Value} {xs : List Value} {cs : Array Value} (h : W.ownsRow b e sz v n xs) (hp : W.heap[p]? = some (.cells cs t (0, 0))) (hne : t ≠ e) : (W.setCell ⟨p, o, none⟩ u).ownsRow b e sz v n xs := by
  obtain ⟨hl, h | ⟨g, cap, cur, rfl, hb, hc, hr⟩⟩ := h
  · exact ⟨hl, .inl h⟩
  · refine ⟨hl, .inr ⟨g, cap, cur, rfl, hb, (Below.heap_setCell _ _ _ _ ?_).trans hc, hr⟩⟩
    rintro rfl
    rw [hc] at hp
    cases hp
    exact hne rfl
end Go.Proofs.YtnhifinfjfpoiaaGreat

namespace Go.Proofs.YtnhifinfjfpoiaaGreat
open Go.RowKit
set_option linter.unusedVariables false
set_option linter.unusedSimpArgs false

/-- What a cell holds: behind a name, so that the walk's simp does not turn in a circle. -/
def cellOf (w : World) (a : Addr) : Value := (w.cell? a).getD undef
theorem cellOf_some {w : World} {a : Addr} {v : Value} (h : w.cell? a = some v) : w.cell? a = some (cellOf w a) := by unfold cellOf; rw [h]; rfl
theorem owns_set {W : World} {b e sz n : Nat} {v u : Value} {xs : List Value} {p : Addr} (h : W.ownsRow b e sz v n xs) (hp : p.block < b) : (W.setCell p u).ownsRow b e sz v n xs := by
  obtain ⟨hl, h | ⟨g, cap, cur, rfl, hb, hc, hr⟩⟩ := h
  · exact ⟨hl, .inl h⟩
  · exact ⟨hl, .inr ⟨g, cap, cur, rfl, hb, (Below.heap_setCell _ _ _ _ (by omega)).trans hc, hr⟩⟩
theorem owns_base {W : World} {b b' e sz n : Nat} {v : Value} {xs : List Value} (h : W.ownsRow b e sz v n xs) (hp : b' ≤ b) : W.ownsRow b' e sz v n xs := by
  obtain ⟨hl, h | ⟨g, cap, cur, rfl, hb, hc⟩⟩ := h
  · exact ⟨hl, .inl h⟩
  · exact ⟨hl, .inr ⟨g, cap, cur, rfl, by omega, hc⟩⟩
theorem OwnRows.set {W : World} {b : Nat} {v u : Value} {rows : List (List Int)} {p : Addr} (h : OwnRows W b v rows) (hp : p.block < b) : OwnRows (W.setCell p u) b v rows :=
  let ⟨vs, h1, h2⟩ := h; ⟨vs, owns_set h1 hp, fun j hj => owns_set (h2 j hj) hp⟩
theorem OwnRows.base {W : World} {b b' : Nat} {v : Value} {rows : List (List Int)} (h : OwnRows W b v rows) (hp : b' ≤ b) : OwnRows W b' v rows :=
  let ⟨vs, h1, h2⟩ := h; ⟨vs, owns_base h1 hp, fun j hj => owns_base (h2 j hj) hp⟩
theorem OwnRows.drewN {W : World} {b : Nat} {v : Value} {rows : List (List Int)} (h : OwnRows W b v rows) (n : Nat) : OwnRows (W.drewN n) b v rows := h
theorem OwnRows.slice {W : World} {b : Nat} {v : Value} {rows : List (List Int)} (h : OwnRows W b v rows) : ∃ a cap, v = .slice a rows.length cap := let ⟨_, h1, _⟩ := h; owns_slice h1

/-- A colony in memory of its own. -/
structure OwnCol (w : World) (B : Nat) (r t u n : Value) (c : Col) : Prop where
  rooms : w.ownsRow B 3 1 r c.rooms.length (intsV c.rooms)
  traps : w.ownsRow B 3 1 t c.traps.length (intsV c.traps)
  runs : w.ownsRow B 48 2 u c.runs.length (pairsV c.runs)
  nights : OwnRows w B n c.nights
/-- A colony that is no longer than what the laws look at, of numbers that fit. -/
structure Short (c : Col) : Prop where
  rooms : c.rooms.length ≤ 8 ∧ ∀ x ∈ c.rooms, I64 x
  traps : c.traps.length ≤ 8 ∧ ∀ x ∈ c.traps, I64 x
  runs : c.runs.length ≤ 14 ∧ ∀ p ∈ c.runs, I64 p.1 ∧ I64 p.2
  nights : c.nights.length ≤ 8 ∧ ∀ r ∈ c.nights, r.length ≤ 8 ∧ ∀ x ∈ r, I64 x
theorem OwnCol.col {w : World} {B : Nat} {r t u n : Value} {c : Col} (h : OwnCol w B r t u n c) (s : Short c) : ColAt w w.heap.size r t u n c :=
  ⟨nums_of_owns h.rooms s.rooms.2 (by have := s.rooms.1; omega), nums_of_owns h.traps s.traps.2 (by have := s.traps.1; omega), pairs_of_owns h.runs s.runs.2 (by have := s.runs.1; omega), h.nights.rows (by have := s.nights.1; omega) fun r hr => ⟨by have := (s.nights.2 r hr).1; omega, (s.nights.2 r hr).2⟩⟩
theorem OwnCol.below {w w' : World} {B : Nat} {r t u n : Value} {c : Col} (h : OwnCol w B r t u n c) (hb : Below w.heap.size w w') : OwnCol w' B r t u n c :=
  ⟨owns_below h.rooms hb, owns_below h.traps hb, owns_below h.runs hb, h.nights.below hb⟩
theorem OwnCol.base {w : World} {B B' : Nat} {r t u n : Value} {c : Col} (h : OwnCol w B r t u n c) (hB : B' ≤ B) : OwnCol w B' r t u n c :=
  ⟨owns_base h.rooms hB, owns_base h.traps hB, owns_base h.runs hB, h.nights.base hB⟩

/-- What the region keeps: the box a, the block b that is written, and all that stood below b. -/
def BoxS (W0 : World) (a b : Nat) (r t u n : Value) (w' : World) : Prop :=
  w'.cell? ⟨a, 0, none⟩ = some r ∧ w'.cell? ⟨a, 1, none⟩ = some t ∧ w'.cell? ⟨a, 2, none⟩ = some u ∧ w'.cell? ⟨a, 3, none⟩ = some n ∧ w'.cell? ⟨b, 0, none⟩ = some (cellOf w' ⟨b, 0, none⟩) ∧ w'.cell? ⟨b, 1, none⟩ = some (cellOf w' ⟨b, 1, none⟩) ∧ w'.cell? ⟨b, 2, none⟩ = some (cellOf w' ⟨b, 2, none⟩) ∧ w'.cell? ⟨b, 3, none⟩ = some (cellOf w' ⟨b, 3, none⟩) ∧ w'.frozen? ⟨b, 0, none⟩ = false ∧ w'.frozen? ⟨b, 1, none⟩ = false ∧ w'.frozen? ⟨b, 2, none⟩ = false ∧ w'.frozen? ⟨b, 3, none⟩ = false ∧ Hid (Below (b) W0 w')
theorem BoxS.of {W0 : World} {a b ty ty2 : Nat} {r t u n x0 x1 x2 x3 : Value} (h : W0.heap[a]? = some (.cells #[r, t, u, n] ty (0, 0))) (k : W0.heap[b]? = some (.cells #[x0, x1, x2, x3] ty2 (0, 0))) (m : Nat) : BoxS W0 a b r t u n (W0.drewN m) := by
  have c0 := (cell_of_row W0 a 0 _ _ _ h).trans rfl
  have c1 := (cell_of_row W0 a 1 _ _ _ h).trans rfl
  have c2 := (cell_of_row W0 a 2 _ _ _ h).trans rfl
  have c3 := (cell_of_row W0 a 3 _ _ _ h).trans rfl
  have f := fun o => frozen_of_row W0 b o _ _ k
  refine ⟨c0, c1, c2, c3, cellOf_some (w := W0.drewN m) (v := x0) ((cell_of_row W0 b 0 _ _ _ k).trans rfl), cellOf_some (w := W0.drewN m) (v := x1) ((cell_of_row W0 b 1 _ _ _ k).trans rfl), cellOf_some (w := W0.drewN m) (v := x2) ((cell_of_row W0 b 2 _ _ _ k).trans rfl), cellOf_some (w := W0.drewN m) (v := x3) ((cell_of_row W0 b 3 _ _ _ k).trans rfl), f 0, f 1, f 2, f 3, Below.drewN (Below.refl _ _) m⟩
theorem BoxS.below {W0 W W' : World} {a b : Nat} {r t u n : Value} (hab : a < b) (hb : b < W.heap.size) (hB : Below W.heap.size W W') (h : BoxS W0 a b r t u n W) : BoxS W0 a b r t u n W' := by
  obtain ⟨c0, c1, c2, c3, d0, d1, d2, d3, f0, f1, f2, f3, hz⟩ := h
  have ca := fun o => hB.cell (p := ⟨a, o, none⟩) (by simp; omega)
  have cb := fun o => hB.cell (p := ⟨b, o, none⟩) hb
  have fb := fun o => hB.frozen (p := ⟨b, o, none⟩) hb
  exact ⟨(ca 0).trans c0, (ca 1).trans c1, (ca 2).trans c2, (ca 3).trans c3, cellOf_some ((cb 0).trans d0), cellOf_some ((cb 1).trans d1), cellOf_some ((cb 2).trans d2), cellOf_some ((cb 3).trans d3), (fb 0).trans f0, (fb 1).trans f1, (fb 2).trans f2, (fb 3).trans f3, hz.out.trans (hB.mono (Nat.le_of_lt hb))⟩
theorem BoxS.store {W0 W : World} {a b : Nat} {r t u n x0 x1 x2 x3 : Value} (hab : a < b) (h : BoxS W0 a b r t u n W) : BoxS W0 a b r t u n ((((W.setCell ⟨b, 0, none⟩ x0).setCell ⟨b, 1, none⟩ x1).setCell ⟨b, 2, none⟩ x2).setCell ⟨b, 3, none⟩ x3) := by
  obtain ⟨c0, c1, c2, c3, d0, d1, d2, d3, f0, f1, f2, f3, hz⟩ := h
  have hb4 : Below b W ((((W.setCell ⟨b, 0, none⟩ x0).setCell ⟨b, 1, none⟩ x1).setCell ⟨b, 2, none⟩ x2).setCell ⟨b, 3, none⟩ x3) := ((((Below.refl b W).setCell (Nat.le_refl _) _).setCell (Nat.le_refl _) _).setCell (Nat.le_refl _) _).setCell (Nat.le_refl _) _
  have ca := fun o => hb4.cell (p := ⟨a, o, none⟩) hab
  refine ⟨(ca 0).trans c0, (ca 1).trans c1, (ca 2).trans c2, (ca 3).trans c3, cellOf_some (v := x0) (by simp [go_sem, d0, d1, d2, d3]), cellOf_some (v := x1) (by simp [go_sem, d0, d1, d2, d3]), cellOf_some (v := x2) (by simp [go_sem, d0, d1, d2, d3]), cellOf_some (v := x3) (by simp [go_sem, d0, d1, d2, d3]), ?_, ?_, ?_, ?_, hz.out.trans hb4⟩
  all_goals simp [go_sem, *]

set_option maxRecDepth 100000 in
set_option maxHeartbeats 4000000 in
theorem own_any (c : Col) (r t u n : Value) (w : World) (hc : ColAt w w.heap.size r t u n c) (hs : Short c) :
    Calls Tryz.prog 7 #[.agg #[r, t, u, n]] w fun e w' => ∃ r' t' u' n', e = .returned (.agg #[r', t', u', n']) ∧ OwnCol w' w.heap.size r' t' u' n' c ∧ Below w.heap.size w w' := by
  obtain ⟨hr, htr, hu, hn⟩ := hc
  have HALL := Lib.hid (And.intro hr (And.intro htr (And.intro hu hn)))
  obtain ⟨ar, cr, rfl, _⟩ := hr.open
  obtain ⟨at_, ct, rfl, _⟩ := htr.open
  obtain ⟨au, cu, rfl, _⟩ := hu.open
  obtain ⟨an, cn, rfl, _⟩ := hn.open
  have HSH := Lib.hid hs
  clear hr htr hu hn hs
  go_enter Tryz.func7, Tryz.ntmps7
  go_wp2_with fail
  have b0 : ((w.alloc (.cells #[.slice ar c.rooms.length cr, .slice at_ c.traps.length ct, .slice au c.runs.length cu, .slice an c.nights.length cn] 26)).alloc (.cells #[.slice none 0 0, .slice none 0 0, .slice none 0 0, .slice none 0 0] 26)).heap[w.heap.size]? = some (.cells #[.slice ar c.rooms.length cr, .slice at_ c.traps.length ct, .slice au c.runs.length cu, .slice an c.nights.length cn] 26 (0, 0)) := keep _ (blk _ _ _ _ rfl)
  have b1 : ((w.alloc (.cells #[.slice ar c.rooms.length cr, .slice at_ c.traps.length ct, .slice au c.runs.length cu, .slice an c.nights.length cn] 26)).alloc (.cells #[.slice none 0 0, .slice none 0 0, .slice none 0 0, .slice none 0 0] 26)).heap[w.heap.size + 1]? = some (.cells #[.slice none 0 0, .slice none 0 0, .slice none 0 0, .slice none 0 0] 26 (0, 0)) := blk _ _ _ _ (by simp)
  have hB0 : Below w.heap.size w ((w.alloc (.cells #[.slice ar c.rooms.length cr, .slice at_ c.traps.length ct, .slice au c.runs.length cu, .slice an c.nights.length cn] 26)).alloc (.cells #[.slice none 0 0, .slice none 0 0, .slice none 0 0, .slice none 0 0] 26)) := ((Below.refl _ w).alloc (Nat.le_refl _) _).alloc (by simp) _
  obtain ⟨W0, hW0⟩ : ∃ W0, ((w.alloc (.cells #[.slice ar c.rooms.length cr, .slice at_ c.traps.length ct, .slice au c.runs.length cu, .slice an c.nights.length cn] 26)).alloc (.cells #[.slice none 0 0, .slice none 0 0, .slice none 0 0, .slice none 0 0] 26)) = W0 := ⟨_, rfl⟩
  rw [hW0] at b0 b1 hB0 ⊢
  clear hW0
  have hlt := (Array.getElem?_eq_some_iff.1 b1).1
  have hS := BoxS.of b0 b1 1
  have hlt2 : ∀ W, Hid (Below (w.heap.size + 1) W0 W) → w.heap.size + 1 < W.heap.size := fun W h => Nat.lt_of_lt_of_le hlt h.out.size
  have hw : ∀ W, Hid (Below (w.heap.size + 1) W0 W) → Below w.heap.size w W := fun W h => hB0.trans (h.out.mono (by omega))
  have HLT := Lib.hid hlt2
  have HW := Lib.hid hw
  have HCR : Hid (∀ W, Hid (Below (w.heap.size + 1) W0 W) → Calls Tryz.prog 37 #[.slice ar c.rooms.length cr] W fun e w' => ∃ v', e = .returned v' ∧ w'.ownsRow W.heap.size 3 1 v' c.rooms.length (intsV c.rooms) ∧ Below W.heap.size W w') := fun W h => copyI_any _ _ W ((HALL.out.1.below (hw W h) (Nat.le_refl _)).mono (hw W h).size) (by have := HSH.out.rooms.1; omega)
  have HCT : Hid (∀ W, Hid (Below (w.heap.size + 1) W0 W) → Calls Tryz.prog 37 #[.slice at_ c.traps.length ct] W fun e w' => ∃ v', e = .returned v' ∧ w'.ownsRow W.heap.size 3 1 v' c.traps.length (intsV c.traps) ∧ Below W.heap.size W w') := fun W h => copyI_any _ _ W ((HALL.out.2.1.below (hw W h) (Nat.le_refl _)).mono (hw W h).size) (by have := HSH.out.traps.1; omega)
  have HCU : Hid (∀ W, Hid (Below (w.heap.size + 1) W0 W) → Calls Tryz.prog 38 #[.slice au c.runs.length cu] W fun e w' => ∃ v', e = .returned v' ∧ w'.ownsRow W.heap.size 48 2 v' c.runs.length (pairsV c.runs) ∧ Below W.heap.size W w') := fun W h => copyR_any _ _ W ((HALL.out.2.2.1.below (hw W h) (Nat.le_refl _)).mono (hw W h).size) (by have := HSH.out.runs.1; omega)
  have HCN : Hid (∀ W, Hid (Below (w.heap.size + 1) W0 W) → Calls Tryz.prog 39 #[.slice an c.nights.length cn] W fun e w' => ∃ v', e = .returned v' ∧ OwnRows w' W.heap.size v' c.nights ∧ Below W.heap.size W w') := fun W h => copyRows_any _ _ W ((HALL.out.2.2.2.below (hw W h) (Nat.le_refl _)).mono (hw W h).size) (by have := HSH.out.nights.1; omega) (fun q hq => by have := (HSH.out.nights.2 q hq).1; omega)
  have hS' : W0.drew.cell? ⟨w.heap.size, 0, none⟩ = some (.slice ar c.rooms.length cr) ∧ W0.drew.cell? ⟨w.heap.size, 1, none⟩ = some (.slice at_ c.traps.length ct) ∧ W0.drew.cell? ⟨w.heap.size, 2, none⟩ = some (.slice au c.runs.length cu) ∧ W0.drew.cell? ⟨w.heap.size, 3, none⟩ = some (.slice an c.nights.length cn) ∧ W0.drew.cell? ⟨w.heap.size + 1, 0, none⟩ = some (cellOf W0.drew ⟨w.heap.size + 1, 0, none⟩) ∧ W0.drew.cell? ⟨w.heap.size + 1, 1, none⟩ = some (cellOf W0.drew ⟨w.heap.size + 1, 1, none⟩) ∧ W0.drew.cell? ⟨w.heap.size + 1, 2, none⟩ = some (cellOf W0.drew ⟨w.heap.size + 1, 2, none⟩) ∧ W0.drew.cell? ⟨w.heap.size + 1, 3, none⟩ = some (cellOf W0.drew ⟨w.heap.size + 1, 3, none⟩) ∧ W0.drew.frozen? ⟨w.heap.size + 1, 0, none⟩ = false ∧ W0.drew.frozen? ⟨w.heap.size + 1, 1, none⟩ = false ∧ W0.drew.frozen? ⟨w.heap.size + 1, 2, none⟩ = false ∧ W0.drew.frozen? ⟨w.heap.size + 1, 3, none⟩ = false ∧ Hid (Below (w.heap.size + 1) W0 W0.drew) := hS
  clear b0 b1 hB0 hlt hlt2 hw hS
  go_region_held3 (fun w' => w'.cell? ⟨w.heap.size, 0, none⟩ = some (.slice ar c.rooms.length cr) ∧ w'.cell? ⟨w.heap.size, 1, none⟩ = some (.slice at_ c.traps.length ct) ∧ w'.cell? ⟨w.heap.size, 2, none⟩ = some (.slice au c.runs.length cu) ∧ w'.cell? ⟨w.heap.size, 3, none⟩ = some (.slice an c.nights.length cn) ∧ w'.cell? ⟨w.heap.size + 1, 0, none⟩ = some (cellOf w' ⟨w.heap.size + 1, 0, none⟩) ∧ w'.cell? ⟨w.heap.size + 1, 1, none⟩ = some (cellOf w' ⟨w.heap.size + 1, 1, none⟩) ∧ w'.cell? ⟨w.heap.size + 1, 2, none⟩ = some (cellOf w' ⟨w.heap.size + 1, 2, none⟩) ∧ w'.cell? ⟨w.heap.size + 1, 3, none⟩ = some (cellOf w' ⟨w.heap.size + 1, 3, none⟩) ∧ w'.frozen? ⟨w.heap.size + 1, 0, none⟩ = false ∧ w'.frozen? ⟨w.heap.size + 1, 1, none⟩ = false ∧ w'.frozen? ⟨w.heap.size + 1, 2, none⟩ = false ∧ w'.frozen? ⟨w.heap.size + 1, 3, none⟩ = false ∧ Hid (Below (w.heap.size + 1) W0 w')) (first | assumption | exact BoxS.below (Nat.lt_succ_self _) (HLT.out _ (by exact (by assumption : _ ∧ _ ∧ _ ∧ _ ∧ _ ∧ _ ∧ _ ∧ _ ∧ _ ∧ _ ∧ _ ∧ _ ∧ Hid _).2.2.2.2.2.2.2.2.2.2.2.2)) (by assumption) (by assumption) | exact BoxS.store (Nat.lt_succ_self _) (by assumption))
    (first | (go_at_call 37; (with_reducible refine (HCR.out _ (by exact (by assumption : _ ∧ _ ∧ _ ∧ _ ∧ _ ∧ _ ∧ _ ∧ _ ∧ _ ∧ _ ∧ _ ∧ _ ∧ Hid _).2.2.2.2.2.2.2.2.2.2.2.2)).mono ?_); rintro e w1 ⟨v1, rfl, hx1, hb1⟩; obtain ⟨a1, q1, rfl⟩ := owns_slice hx1; have HX1 := Lib.hid hx1; clear hx1) | (go_at_call 37; (with_reducible refine (HCT.out _ (by exact (by assumption : _ ∧ _ ∧ _ ∧ _ ∧ _ ∧ _ ∧ _ ∧ _ ∧ _ ∧ _ ∧ _ ∧ _ ∧ Hid _).2.2.2.2.2.2.2.2.2.2.2.2)).mono ?_); rintro e w2 ⟨v2, rfl, hx2, hb2⟩; obtain ⟨a2, q2, rfl⟩ := owns_slice hx2; have HX2 := Lib.hid hx2; clear hx2) | (go_at_call 38; (with_reducible refine (HCU.out _ (by exact (by assumption : _ ∧ _ ∧ _ ∧ _ ∧ _ ∧ _ ∧ _ ∧ _ ∧ _ ∧ _ ∧ _ ∧ _ ∧ Hid _).2.2.2.2.2.2.2.2.2.2.2.2)).mono ?_); rintro e w3 ⟨v3, rfl, hx3, hb3⟩; obtain ⟨a3, q3, rfl⟩ := owns_slice hx3; have HX3 := Lib.hid hx3; clear hx3) | (go_at_call 39; (with_reducible refine (HCN.out _ (by exact (by assumption : _ ∧ _ ∧ _ ∧ _ ∧ _ ∧ _ ∧ _ ∧ _ ∧ _ ∧ _ ∧ _ ∧ _ ∧ Hid _).2.2.2.2.2.2.2.2.2.2.2.2)).mono ?_); rintro e w4 ⟨v4, rfl, hx4, hb4⟩; obtain ⟨a4, q4, rfl⟩ := hx4.slice; have HX4 := Lib.hid hx4; clear hx4))
  have hl := fun W (h : BoxS W0 w.heap.size (w.heap.size + 1) (.slice ar c.rooms.length cr) (.slice at_ c.traps.length ct) (.slice au c.runs.length cu) (.slice an c.nights.length cn) W) => HLT.out W h.2.2.2.2.2.2.2.2.2.2.2.2
  have z0 := hl _ hS'
  have s1 := BoxS.below (Nat.lt_succ_self _) z0 hb1 hS'
  have z1 := hl _ s1
  have s2 := BoxS.below (Nat.lt_succ_self _) z1 hb2 s1
  have z2 := hl _ s2
  have s3 := BoxS.below (Nat.lt_succ_self _) z2 hb3 s2
  have z3 := hl _ s3
  have s4 := BoxS.below (Nat.lt_succ_self _) z3 hb4 s3
  have z4 := hl _ s4
  obtain ⟨_, _, _, _, d0, d1, d2, d3, _, _, _, _, hz⟩ := s4
  have n2 := hb2.size; have n3 := hb3.size; have n1 := hb1.size
  have o1 := owns_below (owns_below (owns_below HX1.out hb2) hb3) hb4
  have o2 := owns_below (owns_below HX2.out hb3) hb4
  have o3 := owns_below HX3.out hb4
  have o4 := HX4.out
  have q1' := owns_base (owns_set (p := ⟨w.heap.size + 1, 3, none⟩) (u := .slice a4 c.nights.length q4) (owns_set (p := ⟨w.heap.size + 1, 2, none⟩) (u := .slice a3 c.runs.length q3) (owns_set (p := ⟨w.heap.size + 1, 1, none⟩) (u := .slice a2 c.traps.length q2) (owns_set (p := ⟨w.heap.size + 1, 0, none⟩) (u := .slice a1 c.rooms.length q1) o1 z0) z0) z0) z0) (b' := w.heap.size) (by omega)
  have q2' := owns_base (owns_set (p := ⟨w.heap.size + 1, 3, none⟩) (u := .slice a4 c.nights.length q4) (owns_set (p := ⟨w.heap.size + 1, 2, none⟩) (u := .slice a3 c.runs.length q3) (owns_set (p := ⟨w.heap.size + 1, 1, none⟩) (u := .slice a2 c.traps.length q2) (owns_set (p := ⟨w.heap.size + 1, 0, none⟩) (u := .slice a1 c.rooms.length q1) o2 z1) z1) z1) z1) (b' := w.heap.size) (by omega)
  have q3' := owns_base (owns_set (p := ⟨w.heap.size + 1, 3, none⟩) (u := .slice a4 c.nights.length q4) (owns_set (p := ⟨w.heap.size + 1, 2, none⟩) (u := .slice a3 c.runs.length q3) (owns_set (p := ⟨w.heap.size + 1, 1, none⟩) (u := .slice a2 c.traps.length q2) (owns_set (p := ⟨w.heap.size + 1, 0, none⟩) (u := .slice a1 c.rooms.length q1) o3 z2) z2) z2) z2) (b' := w.heap.size) (by omega)
  have q4' := OwnRows.base (OwnRows.set (p := ⟨w.heap.size + 1, 3, none⟩) (u := .slice a4 c.nights.length q4) (OwnRows.set (p := ⟨w.heap.size + 1, 2, none⟩) (u := .slice a3 c.runs.length q3) (OwnRows.set (p := ⟨w.heap.size + 1, 1, none⟩) (u := .slice a2 c.traps.length q2) (OwnRows.set (p := ⟨w.heap.size + 1, 0, none⟩) (u := .slice a1 c.rooms.length q1) o4 z3) z3) z3) z3) (b' := w.heap.size) (by omega)
  have hw4 := HW.out _ hz
  have hfin : Below w.heap.size w ((((w4.setCell ⟨w.heap.size + 1, 0, none⟩ (.slice a1 c.rooms.length q1)).setCell ⟨w.heap.size + 1, 1, none⟩ (.slice a2 c.traps.length q2)).setCell ⟨w.heap.size + 1, 2, none⟩ (.slice a3 c.runs.length q3)).setCell ⟨w.heap.size + 1, 3, none⟩ (.slice a4 c.nights.length q4)) := (((hw4.setCell (Nat.le_succ _) _).setCell (Nat.le_succ _) _).setCell (Nat.le_succ _) _).setCell (Nat.le_succ _) _
  have HF := Lib.hid (And.intro (OwnCol.mk q1' q2' q3' q4') hfin)
  clear s1 s2 s3 z0 z1 z2 z3 z4 hl hb1 hb2 hb3 hb4 n1 n2 n3 o1 o2 o3 o4 q1' q2' q3' q4' hw4 hfin hz HX1 HX2 HX3 HX4 hS'
  go_wp2_with fail
  exact bodyPost_ret (v := .agg #[.slice a1 c.rooms.length q1, .slice a2 c.traps.length q2, .slice a3 c.runs.length q3, .slice a4 c.nights.length q4]) (by simp [results, Tryz.results7, go_sem, d0, d1, d2, d3]) rfl ⟨_, _, _, _, rfl, HF.out.1, HF.out.2⟩
end Go.Proofs.YtnhifinfjfpoiaaGreat

namespace Go.Proofs.YtnhifinfjfpoiaaGreat
open Go.RowKit
set_option linter.unusedVariables false
set_option linter.unusedSimpArgs false

/-- A colony of the reference's, in memory of its own. -/
structure RefCol (w : World) (B : Nat) (r t u n : Value) (c : Col) : Prop where
  rooms : w.ownsRow B 3 1 r c.rooms.length (intsV c.rooms)
  traps : w.ownsRow B 3 1 t c.traps.length (intsV c.traps)
  runs : w.ownsRow B 75 2 u c.runs.length (pairsV c.runs)
  nights : OwnRows w B n c.nights
theorem RefCol.col {w : World} {B : Nat} {r t u n : Value} {c : Col} (h : RefCol w B r t u n c) (s : Short c) : ColAt w w.heap.size r t u n c :=
  ⟨nums_of_owns h.rooms s.rooms.2 (by have := s.rooms.1; omega), nums_of_owns h.traps s.traps.2 (by have := s.traps.1; omega), pairs_of_owns h.runs s.runs.2 (by have := s.runs.1; omega), h.nights.rows (by have := s.nights.1; omega) fun r hr => ⟨by have := (s.nights.2 r hr).1; omega, (s.nights.2 r hr).2⟩⟩
theorem RefCol.below {w w' : World} {B : Nat} {r t u n : Value} {c : Col} (h : RefCol w B r t u n c) (hb : Below w.heap.size w w') : RefCol w' B r t u n c :=
  ⟨owns_below h.rooms hb, owns_below h.traps hb, owns_below h.runs hb, h.nights.below hb⟩
theorem RefCol.slices {w : World} {B : Nat} {r t u n : Value} {c : Col} (h : RefCol w B r t u n c) : ∃ a1 q1 a2 q2 a3 q3 a4 q4, r = .slice a1 c.rooms.length q1 ∧ t = .slice a2 c.traps.length q2 ∧ u = .slice a3 c.runs.length q3 ∧ n = .slice a4 c.nights.length q4 := by
  obtain ⟨a1, q1, h1⟩ := owns_slice h.rooms
  obtain ⟨a2, q2, h2⟩ := owns_slice h.traps
  obtain ⟨a3, q3, h3⟩ := owns_slice h.runs
  obtain ⟨a4, q4, h4⟩ := h.nights.slice
  exact ⟨a1, q1, a2, q2, a3, q3, a4, q4, h1, h2, h3, h4⟩
theorem OwnCol.slices {w : World} {B : Nat} {r t u n : Value} {c : Col} (h : OwnCol w B r t u n c) : ∃ a1 q1 a2 q2 a3 q3 a4 q4, r = .slice a1 c.rooms.length q1 ∧ t = .slice a2 c.traps.length q2 ∧ u = .slice a3 c.runs.length q3 ∧ n = .slice a4 c.nights.length q4 := by
  obtain ⟨a1, q1, h1⟩ := owns_slice h.rooms
  obtain ⟨a2, q2, h2⟩ := owns_slice h.traps
  obtain ⟨a3, q3, h3⟩ := owns_slice h.runs
  obtain ⟨a4, q4, h4⟩ := h.nights.slice
  exact ⟨a1, q1, a2, q2, a3, q3, a4, q4, h1, h2, h3, h4⟩
/-- What the region keeps: a box, and all that stood. -/
abbrev BoxK (W0 : World) (a : Nat) (r t u n : Value) (w' : World) : Prop := w'.cell? ⟨a, 0, none⟩ = some r ∧ w'.cell? ⟨a, 1, none⟩ = some t ∧ w'.cell? ⟨a, 2, none⟩ = some u ∧ w'.cell? ⟨a, 3, none⟩ = some n ∧ Hid (Below W0.heap.size W0 w')
theorem BoxK.of {W0 : World} {a ty : Nat} {r t u n : Value} (h : W0.heap[a]? = some (.cells #[r, t, u, n] ty (0, 0))) (m : Nat) : BoxK W0 a r t u n (W0.drewN m) :=
  ⟨(cell_of_row W0 a 0 _ _ _ h).trans rfl, (cell_of_row W0 a 1 _ _ _ h).trans rfl, (cell_of_row W0 a 2 _ _ _ h).trans rfl, (cell_of_row W0 a 3 _ _ _ h).trans rfl, Below.drewN (Below.refl _ _) m⟩
theorem BoxK.below {W0 W W' : World} {a : Nat} {r t u n : Value} (ha : a < W0.heap.size) (hB : Below W.heap.size W W') (h : BoxK W0 a r t u n W) : BoxK W0 a r t u n W' := by
  obtain ⟨c0, c1, c2, c3, hz⟩ := h
  have hsz := hz.out.size
  have ca := fun o => hB.cell (p := ⟨a, o, none⟩) (by simp; omega)
  exact ⟨(ca 0).trans c0, (ca 1).trans c1, (ca 2).trans c2, (ca 3).trans c3, hz.out.trans (hB.mono hsz)⟩
theorem BoxK.alloc {W0 W : World} {a : Nat} {r t u n : Value} {o : Obj} (ha : a < W0.heap.size) (h : BoxK W0 a r t u n W) : BoxK W0 a r t u n (W.alloc o) :=
  h.below ha ((Below.refl _ _).alloc (Nat.le_refl _) _)
theorem BoxK.allocD {W0 W : World} {a : Nat} {r t u n : Value} {o : Obj} (ha : a < W0.heap.size) (h : BoxK W0 a r t u n W.drew) : BoxK W0 a r t u n (W.alloc o).drew :=
  BoxK.alloc (o := o) ha h
theorem BoxK.realloc {W0 W : World} {a : Nat} {r t u n : Value} {o o' : Obj} (ha : a < W0.heap.size) (hW : W0.heap.size ≤ W.heap.size) (h : BoxK W0 a r t u n (W.alloc o)) : BoxK W0 a r t u n (W.alloc o') := by
  obtain ⟨c0, c1, c2, c3, hz⟩ := h
  have h1 : ∀ o, (W.alloc o).cell? = (W.alloc o).cell? := fun _ => rfl
  have ca : ∀ (o : Obj) (j : Nat), (W.alloc o).cell? ⟨a, j, none⟩ = W.cell? ⟨a, j, none⟩ := fun o j => ((Below.refl W.heap.size W).alloc (Nat.le_refl _) o).cell (p := ⟨a, j, none⟩) (by simp; omega)
  refine ⟨(ca _ 0).trans ((ca _ 0).symm.trans c0), (ca _ 1).trans ((ca _ 1).symm.trans c1), (ca _ 2).trans ((ca _ 2).symm.trans c2), (ca _ 3).trans ((ca _ 3).symm.trans c3), ?_⟩
  have hb : Below W0.heap.size W0 (W.alloc o) := hz.out
  exact ⟨hb.os, hb.tape, hb.output, by simp; omega, fun k hk => by
    have h2 := hb.block k hk
    have h3 : ∀ o, (W.alloc o).heap[k]? = W.heap[k]? := fun o => ((Below.refl W.heap.size W).alloc (Nat.le_refl _) o).block k (by omega)
    rw [h3] at h2 ⊢; exact h2⟩
theorem BoxK.store {W0 W : World} {a p : Nat} {r t u n x0 x1 x2 x3 : Value} (ha : a < W0.heap.size) (hp : W0.heap.size ≤ p) (h : BoxK W0 a r t u n W) : BoxK W0 a r t u n ((((W.setCell ⟨p, 0, none⟩ x0).setCell ⟨p, 1, none⟩ x1).setCell ⟨p, 2, none⟩ x2).setCell ⟨p, 3, none⟩ x3) := by
  obtain ⟨c0, c1, c2, c3, hz⟩ := h
  have hb4 : Below W0.heap.size W ((((W.setCell ⟨p, 0, none⟩ x0).setCell ⟨p, 1, none⟩ x1).setCell ⟨p, 2, none⟩ x2).setCell ⟨p, 3, none⟩ x3) := ((((Below.refl _ W).setCell hp _).setCell hp _).setCell hp _).setCell hp _
  have ca := fun o => hb4.cell (p := ⟨a, o, none⟩) ha
  exact ⟨(ca 0).trans c0, (ca 1).trans c1, (ca 2).trans c2, (ca 3).trans c3, hz.out.trans hb4⟩

theorem OwnRows.set_ty {W : World} {b p o t : Nat} {v u : Value} {rows : List (List Int)} {cs : Array Value} (h : OwnRows W b v rows) (hp : W.heap[p]? = some (.cells cs t (0, 0))) (h1 : t ≠ 22) (h2 : t ≠ 3) : OwnRows (W.setCell ⟨p, o, none⟩ u) b v rows :=
  let ⟨vs, g1, g2⟩ := h; ⟨vs, owns_set_ty g1 hp h1, fun j hj => owns_set_ty (g2 j hj) hp h2⟩
/-- A store into a block of four cells. -/
theorem four_set {W : World} {p t : Nat} {x0 x1 x2 x3 y0 y1 y2 y3 : Value} (hp : W.heap[p]? = some (.cells #[y0, y1, y2, y3] t (0, 0))) :
    (W.setCell ⟨p, 0, none⟩ x0).heap[p]? = some (.cells #[x0, y1, y2, y3] t (0, 0)) ∧ ((W.setCell ⟨p, 0, none⟩ x0).setCell ⟨p, 1, none⟩ x1).heap[p]? = some (.cells #[x0, x1, y2, y3] t (0, 0)) ∧
    (((W.setCell ⟨p, 0, none⟩ x0).setCell ⟨p, 1, none⟩ x1).setCell ⟨p, 2, none⟩ x2).heap[p]? = some (.cells #[x0, x1, x2, y3] t (0, 0)) ∧
    ((((W.setCell ⟨p, 0, none⟩ x0).setCell ⟨p, 1, none⟩ x1).setCell ⟨p, 2, none⟩ x2).setCell ⟨p, 3, none⟩ x3).heap[p]? = some (.cells #[x0, x1, x2, x3] t (0, 0)) := by
  have e0 : (W.setCell ⟨p, 0, none⟩ x0).heap[p]? = some (.cells #[x0, y1, y2, y3] t (0, 0)) := heap_setCell_same W p 0 _ _ _ hp
  have e1 : ((W.setCell ⟨p, 0, none⟩ x0).setCell ⟨p, 1, none⟩ x1).heap[p]? = some (.cells #[x0, x1, y2, y3] t (0, 0)) := heap_setCell_same _ p 1 _ _ _ e0
  have e2 : (((W.setCell ⟨p, 0, none⟩ x0).setCell ⟨p, 1, none⟩ x1).setCell ⟨p, 2, none⟩ x2).heap[p]? = some (.cells #[x0, x1, x2, y3] t (0, 0)) := heap_setCell_same _ p 2 _ _ _ e1
  exact ⟨e0, e1, e2, heap_setCell_same _ p 3 _ _ _ e2⟩

/-- Behind the region: a block of the reference's colony, without its runs. -/
def MidT (W0 : World) (c : Col) (s3 : Value) (wx : World) : Prop :=
  ∃ (p : Nat) (a1 a2 a4 : Option Addr) (q1 q2 q4 : Nat), s3 = .pointer (some ⟨p, 0, none⟩) ∧ wx.heap[p]? = some (.cells #[.slice a1 c.rooms.length q1, .slice a2 c.traps.length q2, .slice none 0 0, .slice a4 c.nights.length q4] 32 (0, 0)) ∧
    wx.ownsRow W0.heap.size 3 1 (.slice a1 c.rooms.length q1) c.rooms.length (intsV c.rooms) ∧ wx.ownsRow W0.heap.size 3 1 (.slice a2 c.traps.length q2) c.traps.length (intsV c.traps) ∧ OwnRows wx W0.heap.size (.slice a4 c.nights.length q4) c.nights ∧ Below W0.heap.size W0 wx ∧ W0.heap.size ≤ p

theorem infoRRun : (Tryz.prog.info? 75).map (fun i => (i.zero, i.size, i.bytes)) = some (some (.agg #[.int .i64 0, .int .i64 0]), 2, 16) := by kernel_rfl
/-- In the loop: so many runs are copied. -/
def TheirI (W0 : World) (c : Col) (p : Nat) (a1 a2 a4 : Option Addr) (q1 q2 q4 k : Nat) (wr : World) : Prop :=
  ∃ u, wr.heap[p]? = some (.cells #[.slice a1 c.rooms.length q1, .slice a2 c.traps.length q2, u, .slice a4 c.nights.length q4] 32 (0, 0)) ∧ wr.ownsRow W0.heap.size 75 2 u k (pairsV (c.runs.take k)) ∧
    wr.ownsRow W0.heap.size 3 1 (.slice a1 c.rooms.length q1) c.rooms.length (intsV c.rooms) ∧ wr.ownsRow W0.heap.size 3 1 (.slice a2 c.traps.length q2) c.traps.length (intsV c.traps) ∧ OwnRows wr W0.heap.size (.slice a4 c.nights.length q4) c.nights ∧ Below W0.heap.size W0 wr

theorem MidT.store {W0 W : World} {c : Col} {p : Nat} {a1 a2 a4 : Option Addr} {q1 q2 q4 : Nat} (hp : W.heap[p]? = some (.cells #[.slice none 0 0, .slice none 0 0, .slice none 0 0, .slice none 0 0] 32 (0, 0))) (hn : W0.heap.size ≤ p)
    (o1 : W.ownsRow W0.heap.size 3 1 (.slice a1 c.rooms.length q1) c.rooms.length (intsV c.rooms)) (o2 : W.ownsRow W0.heap.size 3 1 (.slice a2 c.traps.length q2) c.traps.length (intsV c.traps)) (o4 : OwnRows W W0.heap.size (.slice a4 c.nights.length q4) c.nights)
    (hk : Below W0.heap.size W0 ((((W.setCell ⟨p, 0, none⟩ (.slice a1 c.rooms.length q1)).setCell ⟨p, 1, none⟩ (.slice a2 c.traps.length q2)).setCell ⟨p, 2, none⟩ (.slice none 0 0)).setCell ⟨p, 3, none⟩ (.slice a4 c.nights.length q4))) :
    MidT W0 c (.pointer (some ⟨p, 0, none⟩)) ((((W.setCell ⟨p, 0, none⟩ (.slice a1 c.rooms.length q1)).setCell ⟨p, 1, none⟩ (.slice a2 c.traps.length q2)).setCell ⟨p, 2, none⟩ (.slice none 0 0)).setCell ⟨p, 3, none⟩ (.slice a4 c.nights.length q4)) := by
  obtain ⟨e0, e1, e2, e3⟩ := four_set (x0 := .slice a1 c.rooms.length q1) (x1 := .slice a2 c.traps.length q2) (x2 := .slice none 0 0) (x3 := .slice a4 c.nights.length q4) hp
  exact ⟨p, a1, a2, a4, q1, q2, q4, rfl, e3, owns_set_ty (owns_set_ty (owns_set_ty (owns_set_ty o1 hp (by decide)) e0 (by decide)) e1 (by decide)) e2 (by decide), owns_set_ty (owns_set_ty (owns_set_ty (owns_set_ty o2 hp (by decide)) e0 (by decide)) e1 (by decide)) e2 (by decide),
    (((o4.set_ty hp (by decide) (by decide)).set_ty e0 (by decide) (by decide)).set_ty e1 (by decide) (by decide)).set_ty e2 (by decide) (by decide), hk, hn⟩

set_option maxRecDepth 100000 in
set_option maxHeartbeats 4000000 in
theorem theirs_any (c : Col) (r t u n : Value) (w : World) (hc : ColAt w w.heap.size r t u n c) (hs : Short c) :
    Calls Tryz.prog 8 #[.agg #[r, t, u, n]] w fun e w' => ∃ r' t' u' n', e = .returned (.agg #[r', t', u', n']) ∧ RefCol w' w.heap.size r' t' u' n' c ∧ Below w.heap.size w w' := by
  obtain ⟨hr, htr, hu, hn⟩ := hc
  have HALL := Lib.hid (And.intro hr (And.intro htr (And.intro hu hn)))
  obtain ⟨ar, cr, rfl, _⟩ := hr.open
  obtain ⟨at_, ct, rfl, _⟩ := htr.open
  obtain ⟨au, cu, rfl, _⟩ := hu.open
  obtain ⟨an, cn, rfl, _⟩ := hn.open
  have HSH := Lib.hid hs
  clear hr htr hu hn hs
  go_enter Tryz.func8, Tryz.ntmps8
  go_upto_region 1 with fail
  have b0 : ((w.alloc (.cells #[.slice ar c.rooms.length cr, .slice at_ c.traps.length ct, .slice au c.runs.length cu, .slice an c.nights.length cn] 26)).alloc (.cells #[.slice none 0 0, .slice none 0 0, .slice none 0 0, .slice none 0 0] 32)).heap[w.heap.size]? = some (.cells #[.slice ar c.rooms.length cr, .slice at_ c.traps.length ct, .slice au c.runs.length cu, .slice an c.nights.length cn] 26 (0, 0)) := keep _ (blk _ _ _ _ rfl)
  have b1 : ((w.alloc (.cells #[.slice ar c.rooms.length cr, .slice at_ c.traps.length ct, .slice au c.runs.length cu, .slice an c.nights.length cn] 26)).alloc (.cells #[.slice none 0 0, .slice none 0 0, .slice none 0 0, .slice none 0 0] 32)).heap[w.heap.size + 1]? = some (.cells #[.slice none 0 0, .slice none 0 0, .slice none 0 0, .slice none 0 0] 32 (0, 0)) := blk _ _ _ _ (by simp)
  have hB0 : Below w.heap.size w ((w.alloc (.cells #[.slice ar c.rooms.length cr, .slice at_ c.traps.length ct, .slice au c.runs.length cu, .slice an c.nights.length cn] 26)).alloc (.cells #[.slice none 0 0, .slice none 0 0, .slice none 0 0, .slice none 0 0] 32)) := ((Below.refl _ w).alloc (Nat.le_refl _) _).alloc (by simp) _
  obtain ⟨W0, hW0⟩ : ∃ W0, ((w.alloc (.cells #[.slice ar c.rooms.length cr, .slice at_ c.traps.length ct, .slice au c.runs.length cu, .slice an c.nights.length cn] 26)).alloc (.cells #[.slice none 0 0, .slice none 0 0, .slice none 0 0, .slice none 0 0] 32)) = W0 := ⟨_, rfl⟩
  rw [hW0] at b0 b1 hB0 ⊢
  clear hW0
  have hlt := (Array.getElem?_eq_some_iff.1 b0).1
  have hS := BoxK.of b0 1
  have hw : ∀ W, Hid (Below W0.heap.size W0 W) → Below w.heap.size w W := fun W h => hB0.trans (h.out.mono (by omega))
  have hz : ∀ W, Hid (Below W0.heap.size W0 W) → W0.heap.size ≤ W.heap.size := fun W h => h.out.size
  have HLT := Lib.hid hlt
  have HB1 := Lib.hid (And.intro b1 hB0)
  have HCR : Hid (∀ W, Hid (Below W0.heap.size W0 W) → Calls Tryz.prog 37 #[.slice ar c.rooms.length cr] W fun e w' => ∃ v', e = .returned v' ∧ w'.ownsRow W.heap.size 3 1 v' c.rooms.length (intsV c.rooms) ∧ Below W.heap.size W w' ∧ W0.heap.size ≤ W.heap.size) := fun W h => (copyI_any _ _ W ((HALL.out.1.below (hw W h) (Nat.le_refl _)).mono (hw W h).size) (by have := HSH.out.rooms.1; omega)).mono fun _ _ ⟨v, h1, h2, h3⟩ => ⟨v, h1, h2, h3, hz W h⟩
  have HCT : Hid (∀ W, Hid (Below W0.heap.size W0 W) → Calls Tryz.prog 37 #[.slice at_ c.traps.length ct] W fun e w' => ∃ v', e = .returned v' ∧ w'.ownsRow W.heap.size 3 1 v' c.traps.length (intsV c.traps) ∧ Below W.heap.size W w' ∧ W0.heap.size ≤ W.heap.size) := fun W h => (copyI_any _ _ W ((HALL.out.2.1.below (hw W h) (Nat.le_refl _)).mono (hw W h).size) (by have := HSH.out.traps.1; omega)).mono fun _ _ ⟨v, h1, h2, h3⟩ => ⟨v, h1, h2, h3, hz W h⟩
  have HCN : Hid (∀ W, Hid (Below W0.heap.size W0 W) → Calls Tryz.prog 39 #[.slice an c.nights.length cn] W fun e w' => ∃ v', e = .returned v' ∧ OwnRows w' W.heap.size v' c.nights ∧ Below W.heap.size W w' ∧ W0.heap.size ≤ W.heap.size) := fun W h => (copyRows_any _ _ W ((HALL.out.2.2.2.below (hw W h) (Nat.le_refl _)).mono (hw W h).size) (by have := HSH.out.nights.1; omega) (fun q hq => by have := (HSH.out.nights.2 q hq).1; omega)).mono fun _ _ ⟨v, h1, h2, h3⟩ => ⟨v, h1, h2, h3, hz W h⟩
  have HRUN := Lib.hid (HALL.out.2.2.1.below hB0 (Nat.le_refl _))
  have hS' : W0.drew.cell? ⟨w.heap.size, 0, none⟩ = some (.slice ar c.rooms.length cr) ∧ W0.drew.cell? ⟨w.heap.size, 1, none⟩ = some (.slice at_ c.traps.length ct) ∧ W0.drew.cell? ⟨w.heap.size, 2, none⟩ = some (.slice au c.runs.length cu) ∧ W0.drew.cell? ⟨w.heap.size, 3, none⟩ = some (.slice an c.nights.length cn) ∧ Hid (Below W0.heap.size W0 W0.drew) := hS
  have HSS := Lib.hid hS'
  clear b0 b1 hB0 hlt hw hz hS HALL
  have hsz0 : ∀ o, (W0.alloc o).drew.heap.size = W0.heap.size + 1 := fun o => World.size_alloc W0 o
  go_cut [3] (fun s3 wx => MidT W0 c s3 wx)
  case first =>
    go_region_held3 (fun w' => w'.cell? ⟨w.heap.size, 0, none⟩ = some (.slice ar c.rooms.length cr) ∧ w'.cell? ⟨w.heap.size, 1, none⟩ = some (.slice at_ c.traps.length ct) ∧ w'.cell? ⟨w.heap.size, 2, none⟩ = some (.slice au c.runs.length cu) ∧ w'.cell? ⟨w.heap.size, 3, none⟩ = some (.slice an c.nights.length cn) ∧ Hid (Below W0.heap.size W0 w')) (first | with_reducible assumption | with_reducible exact BoxK.realloc HLT.out (by omega) (by assumption) | with_reducible exact BoxK.alloc HLT.out (by assumption) | with_reducible exact BoxK.allocD HLT.out (by assumption) | with_reducible exact BoxK.store HLT.out (by first | omega | (simp; omega)) (by assumption) | with_reducible exact BoxK.below HLT.out (by assumption) (by assumption)) (first | (go_at_call 37; (with_reducible refine (HCR.out _ (by exact (by assumption : _ ∧ _ ∧ _ ∧ _ ∧ Hid _).2.2.2.2)).mono ?_); rintro e w1 ⟨v1, rfl, hx1, hb1, hz1⟩; obtain ⟨a1, q1, rfl⟩ := owns_slice hx1; obtain ⟨hcb1, hfb1⟩ := bcell hb1; have n1 := hb1.size; (try rw [hsz0] at n1); (try have m1 : W0.heap.size < w1.heap.size := by omega); have l1 : ∀ x, x < _ → x < w1.heap.size := fun x hx => Nat.lt_of_lt_of_le hx n1; have HX1 := Lib.hid hx1; clear hx1) | (go_at_call 37; (with_reducible refine (HCT.out _ (by exact (by assumption : _ ∧ _ ∧ _ ∧ _ ∧ Hid _).2.2.2.2)).mono ?_); rintro e w2 ⟨v2, rfl, hx2, hb2, hz2⟩; obtain ⟨a2, q2, rfl⟩ := owns_slice hx2; obtain ⟨hcb2, hfb2⟩ := bcell hb2; have n2 := hb2.size; (try rw [hsz0] at n2); (try have m2 : W0.heap.size < w2.heap.size := by omega); have l2 : ∀ x, x < _ → x < w2.heap.size := fun x hx => Nat.lt_of_lt_of_le hx n2; have HX2 := Lib.hid hx2; clear hx2) | (go_at_call 39; (with_reducible refine (HCN.out _ (by exact (by assumption : _ ∧ _ ∧ _ ∧ _ ∧ Hid _).2.2.2.2)).mono ?_); rintro e w4 ⟨v4, rfl, hx4, hb4, hz4⟩; obtain ⟨a4, q4, rfl⟩ := hx4.slice; obtain ⟨hcb4, hfb4⟩ := bcell hb4; have n4 := hb4.size; (try rw [hsz0] at n4); (try have m4 : W0.heap.size < w4.heap.size := by omega); have l4 : ∀ x, x < _ → x < w4.heap.size := fun x hx => Nat.lt_of_lt_of_le hx n4; have HX4 := Lib.hid hx4; clear hx4))
    all_goals
      have o1 := owns_base HX1.out hz1
      have o2 := owns_base HX2.out hz2
      have o4 := HX4.out.base hz4
      have o1b : w2.ownsRow W0.heap.size 3 1 (.slice a1 c.rooms.length q1) c.rooms.length (intsV c.rooms) := by first | exact owns_below o1 hb2 | exact owns_below (o1.alloc _) hb2
      have o1c : w4.ownsRow W0.heap.size 3 1 (.slice a1 c.rooms.length q1) c.rooms.length (intsV c.rooms) := by first | exact owns_below o1b hb4 | exact owns_below (o1b.alloc _) hb4
      have o2b : w4.ownsRow W0.heap.size 3 1 (.slice a2 c.traps.length q2) c.traps.length (intsV c.traps) := by first | exact owns_below o2 hb4 | exact owns_below (o2.alloc _) hb4
      have hk := (by assumption : _ ∧ _ ∧ _ ∧ _ ∧ Hid _).2.2.2.2.out
      have n0 : W0.heap.size ≤ w4.heap.size := Nat.le_trans hz4 hb4.size
      have HALL := Lib.hid (And.intro o1c (And.intro o2b (And.intro o4 (And.intro hk n0))))
      clear o1 o2 o4 o1b o1c o2b hk
    · have HF : Hid (MidT W0 c (.pointer (some ⟨w4.heap.size, 0, none⟩)) (w4.alloc (.cells #[.slice a1 c.rooms.length q1, .slice a2 c.traps.length q2, .slice none 0 0, .slice a4 c.nights.length q4] 32))) :=
        ⟨_, a1, a2, a4, q1, q2, q4, rfl, heap_alloc_new _ _, HALL.out.1.alloc _, HALL.out.2.1.alloc _, HALL.out.2.2.1.below ((Below.refl _ _).alloc (Nat.le_refl _) _), HALL.out.2.2.2.1, n0⟩
      clear HALL hb1 hb2 hb4 hz1 hz2 hz4 hcb1 hcb2 hcb4 hfb1 hfb2 hfb4 n1 n2 n4 l1 l2 l4 n0
      go_wp2_with fail
      go_meet
      exact HF.out
    · have hp : w4.heap[w2.heap.size]? = some (.cells #[.slice none 0 0, .slice none 0 0, .slice none 0 0, .slice none 0 0] 32 (0, 0)) := blk_on (heap_alloc_new _ _) hb4
      have HF := Lib.hid (MidT.store hp (by omega : W0.heap.size ≤ w2.heap.size) HALL.out.1 HALL.out.2.1 HALL.out.2.2.1 HALL.out.2.2.2.1)
      clear HALL hb1 hb2 hb4 hz1 hz2 hz4 hcb1 hcb2 hcb4 hfb1 hfb2 hfb4 n1 n2 n4 l1 l2 l4 n0 hp
      go_wp2_with fail
      go_meet
      exact HF.out
    · have hp : w4.heap[w1.heap.size]? = some (.cells #[.slice none 0 0, .slice none 0 0, .slice none 0 0, .slice none 0 0] 32 (0, 0)) := blk_on (blk_on (heap_alloc_new _ _) hb2) hb4
      have HF := Lib.hid (MidT.store hp (by omega : W0.heap.size ≤ w1.heap.size) HALL.out.1 HALL.out.2.1 HALL.out.2.2.1 HALL.out.2.2.2.1)
      clear HALL hb1 hb2 hb4 hz1 hz2 hz4 hcb1 hcb2 hcb4 hfb1 hfb2 hfb4 n1 n2 n4 l1 l2 l4 n0 hp
      go_wp2_with fail
      go_meet
      exact HF.out
    · have hp : w4.heap[W0.heap.size]? = some (.cells #[.slice none 0 0, .slice none 0 0, .slice none 0 0, .slice none 0 0] 32 (0, 0)) := blk_on (blk_on (blk_on (show ((W0.alloc (.cells #[.slice none 0 0, .slice none 0 0, .slice none 0 0, .slice none 0 0] 32)).drew).heap[W0.heap.size]? = _ from heap_alloc_new _ _) hb1) hb2) hb4
      have HF := Lib.hid (MidT.store hp (by omega : W0.heap.size ≤ W0.heap.size) HALL.out.1 HALL.out.2.1 HALL.out.2.2.1 HALL.out.2.2.2.1)
      clear HALL hb1 hb2 hb4 hz1 hz2 hz4 hcb1 hcb2 hcb4 hfb1 hfb2 hfb4 n1 n2 n4 l1 l2 l4 n0 hp
      go_wp2_with fail
      go_meet
      exact HF.out
  case rest =>
    obtain ⟨p, a1, a2, a4, q1, q2, q4, rfl, hp, o1, o2, o4, hB, hp0⟩ := hcut
    have hBox : wc.cell? ⟨w.heap.size, 0, none⟩ = some (.slice ar c.rooms.length cr) ∧ wc.cell? ⟨w.heap.size, 1, none⟩ = some (.slice at_ c.traps.length ct) ∧ wc.cell? ⟨w.heap.size, 2, none⟩ = some (.slice au c.runs.length cu) ∧ wc.cell? ⟨w.heap.size, 3, none⟩ = some (.slice an c.nights.length cn) ∧ Hid (Below W0.heap.size W0 wc) := by
      have h := HSS.out
      have hb : ∀ o, wc.cell? ⟨w.heap.size, o, none⟩ = W0.drew.cell? ⟨w.heap.size, o, none⟩ := fun o => hB.cell (p := ⟨w.heap.size, o, none⟩) HLT.out
      exact ⟨(hb 0).trans h.1, (hb 1).trans h.2.1, (hb 2).trans h.2.2.1, (hb 3).trans h.2.2.2.1, hB⟩
    obtain ⟨_, _, d2, _, _⟩ := hBox
    have HP := Lib.hid (And.intro hp (And.intro o1 (And.intro o2 (And.intro o4 (And.intro hB hp0)))))
    clear hp o1 o2 o4 hB hp0 HSS HCR HCT HCN hsz0
    go_wp2_with fail
    obtain ⟨i0, hi, hz0, hz1, hz2⟩ := info_parts infoRRun
    have HI := Lib.hid (And.intro hi (And.intro hz0 (And.intro hz1 hz2)))
    obtain ⟨au1, cu1, e1, u1, u2, u3⟩ := HRUN.out.open
    cases e1
    have HU := Lib.hid u3
    have hi : Hid (TheirI W0 c p a1 a2 a4 q1 q2 q4 0 wc) := ⟨_, HP.out.1, World.ownsRow_nil _ _ _ _, HP.out.2.1, HP.out.2.2.1, HP.out.2.2.2.1, HP.out.2.2.2.2.1⟩
    have HP0 := Lib.hid HP.out.2.2.2.2.2
    clear u3 HP d2 hz0 hz1 hz2
    go_loopw [19] (fun i wr => ∃ k : Nat, k ≤ c.runs.length ∧ i = .int .i64 k ∧ Hid (TheirI W0 c p a1 a2 a4 q1 q2 q4 k wr)) (fun i _ => c.runs.length - (intOf i).toNat)
    case atStart => exact ⟨0, Nat.zero_le _, rfl, hi⟩
    case round =>
      obtain ⟨k, hk, rfl, hrel⟩ := hrel
      obtain ⟨u, g1, g2, g3, g4, g5, g6⟩ := hrel.out
      obtain ⟨au', qu', rfl⟩ := owns_slice g2
      by_cases hlt : k < c.runs.length
      · have hki : (k : Int) < c.runs.length := by omega
        obtain ⟨b, off, rfl, hbl, m1, m2⟩ := HU.out k hlt
        have hb' : b < W0.heap.size := Nat.lt_trans hbl HLT.out
        have d1 := (g6.cell (p := ⟨b, off + k * 2, none⟩) hb').trans m1
        have d2 := (g6.cell (p := ⟨b, off + k * 2 + 1, none⟩) hb').trans m2
        have hpl : p < wr.heap.size := (Array.getElem?_eq_some_iff.1 g1).1
        have hA1 : Below wr.heap.size wr (wr.alloc (.cells #[.int .i64 (nthP c.runs k).1, .int .i64 (nthP c.runs k).2] 48)) := (Below.refl _ _).alloc (Nat.le_refl _) _
        have d3 : (wr.alloc (.cells #[.int .i64 (nthP c.runs k).1, .int .i64 (nthP c.runs k).2] 48)).cell? ⟨p, 2, none⟩ = some (.slice au' k qu') := (cell_of_row _ _ 2 _ _ _ (blk_on g1 hA1)).trans rfl
        obtain ⟨hi, hz0, hz1, hz2⟩ := HI.out
        have HO := Lib.hid ((g2.alloc (.cells #[.int .i64 (nthP c.runs k).1, .int .i64 (nthP c.runs k).2] 48)).alloc (.cells #[.int .i64 (nthP c.runs k).1, .int .i64 (nthP c.runs k).2] 75))
        have hnews : ((wr.alloc (.cells #[.int .i64 (nthP c.runs k).1, .int .i64 (nthP c.runs k).2] 48)).alloc (.cells #[.int .i64 (nthP c.runs k).1, .int .i64 (nthP c.runs k).2] 75)).heap[wr.heap.size + 1]? = some (.cells #[.int .i64 (nthP c.runs k).1, .int .i64 (nthP c.runs k).2] 75 (0, 0)) := blk _ _ _ _ (by simp)
        have HNW := Lib.hid hnews
        have h14 := HSH.out.runs.1
        have hszr := g6.size
        have HG := Lib.hid (And.intro g1 (And.intro g3 (And.intro g4 (And.intro g5 g6))))
        clear m1 m2 g1 g2 g3 g4 g5 g6 hA1 hnews hrel
        have hA2 : Below W0.heap.size W0 ((wr.alloc (.cells #[.int .i64 (nthP c.runs k).1, .int .i64 (nthP c.runs k).2] 48)).alloc (.cells #[.int .i64 (nthP c.runs k).1, .int .i64 (nthP c.runs k).2] 75)) := (HG.out.2.2.2.2.alloc hszr _).alloc (by simp; omega) _
        have hA3 : Below wr.heap.size wr ((wr.alloc (.cells #[.int .i64 (nthP c.runs k).1, .int .i64 (nthP c.runs k).2] 48)).alloc (.cells #[.int .i64 (nthP c.runs k).1, .int .i64 (nthP c.runs k).2] 75)) := ((Below.refl _ _).alloc (Nat.le_refl _) _).alloc (by simp) _
        have hpA := blk_on HG.out.1 hA3
        have HPA := Lib.hid (And.intro hpA (And.intro hA2 hA3))
        have hpl3 : p < wr.heap.size + 1 + 1 := by omega
        clear hpA hA2 hA3
        go_wp2_with (at_builtin; go_must (refine wpList_append_own _ rfl _ _ 30 rfl W0.heap.size 75 i0 (.agg #[.int .i64 0, .int .i64 0]) 2 16 Tryz.underlying30 hi hz0 hz1 hz2 rfl (by decide) _ _ _ rfl HO.out ⟨wr.heap.size + 1, 0, none⟩ 1 1 [.int .i64 (nthP c.runs k).1, .int .i64 (nthP c.runs k).2] rfl rfl (World.news_of_block HNW.out) (fun x hx => by simp at hx; rcases hx with rfl | rfl <;> rfl) (by unfold maxLen; omega) (by omega) (by simp; omega) ?_); intro v' w1 hown' hgrow _; obtain ⟨g', cap', rfl⟩ := ownsRow_succ hown'; have hp3 : w1.heap[p]? = some (.cells #[.slice a1 c.rooms.length q1, .slice a2 c.traps.length q2, .slice au' k qu', .slice a4 c.nights.length q4] 32 (0, 0)) := (hgrow.block p (by simp; omega) (not_own HO.out HPA.out.1 (by decide))).trans HPA.out.1; have c2 := (cell_of_row _ _ 2 _ _ _ hp3).trans rfl; have f2 := frozen_of_row w1 p 2 _ _ hp3; have H3 := Lib.hid (And.intro hown' (And.intro hgrow hp3)); clear hown' hgrow hp3)
        obtain ⟨hown', hgrow, hp3⟩ := H3.out
        obtain ⟨_, hA2, hA3⟩ := HPA.out
        have hB3 := below_grown hA2 hgrow (fun r hr => (HO.out.lt r hr).1) (by simp; omega)
        have hint : ∀ {y : Value} {n : Nat} {xs : List Value}, wr.ownsRow W0.heap.size 3 1 y n xs → (w1.setCell ⟨p, 2, none⟩ (.slice (some ⟨g', 0, none⟩) (k + 1) cap')).ownsRow W0.heap.size 3 1 y n xs := fun {y n xs} hy =>
          owns_set_ty (owns_grown (owns_below hy hA3) hgrow (fun g cs hg => not_own HO.out hg (by decide))) hp3 (by decide)
        have hrows : OwnRows (w1.setCell ⟨p, 2, none⟩ (.slice (some ⟨g', 0, none⟩) (k + 1) cap')) W0.heap.size (.slice a4 c.nights.length q4) c.nights := by
          obtain ⟨vs, h1, h2⟩ := HG.out.2.2.2.1
          exact ⟨vs, owns_set_ty (owns_grown (owns_below h1 hA3) hgrow (fun g cs hg => not_own HO.out hg (by decide))) hp3 (by decide), fun j hj => hint (h2 j hj)⟩
        have e : pairsV (c.runs.take (k + 1)) = pairsV (c.runs.take k) ++ [.int .i64 (nthP c.runs k).1, .int .i64 (nthP c.runs k).2] := by
          rw [List.take_succ_eq_append_getElem hlt, pairsV_app, nthP_eq hlt]; rfl
        have hnew : TheirI W0 c p a1 a2 a4 q1 q2 q4 (k + 1) (w1.setCell ⟨p, 2, none⟩ (.slice (some ⟨g', 0, none⟩) (k + 1) cap')) :=
          ⟨_, heap_setCell_same w1 p 2 _ _ _ hp3, by rw [e]; exact owns_set_ty hown' hp3 (by decide), hint HG.out.2.1, hint HG.out.2.2.1, hrows, hB3.setCell (p := ⟨p, 2, none⟩) HP0.out _⟩
        have HN := Lib.hid hnew
        clear hnew hrows hint e hp3 hB3 hA3 hA2 hown' hgrow
        go_roundw
        case rel => exact ⟨k + 1, by omega, by go_num, HN.out⟩
        case measure => simp [intOf]; omega
      · obtain rfl : k = c.runs.length := by omega
        rw [List.take_length] at g2
        have e0 := (cell_of_row _ _ 0 _ _ _ g1).trans rfl
        have e1 := (cell_of_row _ _ 1 _ _ _ g1).trans rfl
        have e2 := (cell_of_row _ _ 2 _ _ _ g1).trans rfl
        have e3 := (cell_of_row _ _ 3 _ _ _ g1).trans rfl
        have b1' := (g6.block _ (Array.getElem?_eq_some_iff.1 HB1.out.1).1).trans HB1.out.1
        have k0 := (cell_of_row _ _ 0 _ _ _ b1').trans rfl
        have k1 := (cell_of_row _ _ 1 _ _ _ b1').trans rfl
        have k2 := (cell_of_row _ _ 2 _ _ _ b1').trans rfl
        have k3 := (cell_of_row _ _ 3 _ _ _ b1').trans rfl
        have j0 := frozen_of_row wr _ 0 _ _ b1'
        have j1 := frozen_of_row wr _ 1 _ _ b1'
        have j2 := frozen_of_row wr _ 2 _ _ b1'
        have j3 := frozen_of_row wr _ 3 _ _ b1'
        have hfin : Below w.heap.size w wr := HB1.out.2.trans (g6.mono (by have := HLT.out; omega))
        have hcol : ∀ (x0 x1 x2 x3 : Value) (W : World), ((((wr.setCell ⟨w.heap.size + 1, 0, none⟩ x0).setCell ⟨w.heap.size + 1, 1, none⟩ x1).setCell ⟨w.heap.size + 1, 2, none⟩ x2).setCell ⟨w.heap.size + 1, 3, none⟩ x3) = W → RefCol W w.heap.size (.slice a1 c.rooms.length q1) (.slice a2 c.traps.length q2) (.slice au' c.runs.length qu') (.slice a4 c.nights.length q4) c ∧ Below w.heap.size w W := by
          rintro x0 x1 x2 x3 W rfl
          obtain ⟨z0, z1, z2, z3⟩ := four_set (x0 := x0) (x1 := x1) (x2 := x2) (x3 := x3) b1'
          have q3 := owns_set_ty (v := .slice a1 c.rooms.length q1) (owns_set_ty (owns_set_ty (owns_set_ty g3 b1' (by decide) (u := x0) (o := 0)) z0 (by decide) (u := x1) (o := 1)) z1 (by decide) (u := x2) (o := 2)) z2 (by decide) (u := x3) (o := 3)
          have q4' := owns_set_ty (v := .slice a2 c.traps.length q2) (owns_set_ty (owns_set_ty (owns_set_ty g4 b1' (by decide) (u := x0) (o := 0)) z0 (by decide) (u := x1) (o := 1)) z1 (by decide) (u := x2) (o := 2)) z2 (by decide) (u := x3) (o := 3)
          have q2' := owns_set_ty (v := .slice au' c.runs.length qu') (owns_set_ty (owns_set_ty (owns_set_ty g2 b1' (by decide) (u := x0) (o := 0)) z0 (by decide) (u := x1) (o := 1)) z1 (by decide) (u := x2) (o := 2)) z2 (by decide) (u := x3) (o := 3)
          have q5 := (((g5.set_ty b1' (by decide) (by decide) (u := x0) (o := 0)).set_ty z0 (by decide) (by decide) (u := x1) (o := 1)).set_ty z1 (by decide) (by decide) (u := x2) (o := 2)).set_ty z2 (by decide) (by decide) (u := x3) (o := 3)
          have hbs : w.heap.size ≤ W0.heap.size := HB1.out.2.size
          exact ⟨⟨owns_base q3 hbs, owns_base q4' hbs, owns_base q2' hbs, q5.base hbs⟩, (((hfin.setCell (Nat.le_succ _) _).setCell (Nat.le_succ _) _).setCell (Nat.le_succ _) _).setCell (Nat.le_succ _) _⟩
        have HF := Lib.hid hcol
        clear g1 g2 g3 g4 g5 g6 hrel hcol hfin b1'
        go_wp2_with fail
        exact bodyPost_ret (v := .agg #[.slice a1 c.rooms.length q1, .slice a2 c.traps.length q2, .slice au' c.runs.length qu', .slice a4 c.nights.length q4]) (by simp [results, Tryz.results8, go_sem, k0, k1, k2, k3]) rfl ⟨_, _, _, _, rfl, HF.out _ _ _ _ _ rfl⟩
end Go.Proofs.YtnhifinfjfpoiaaGreat

namespace Go.Proofs.YtnhifinfjfpoiaaGreat
open Go.RowKit
set_option linter.unusedVariables false
set_option linter.unusedSimpArgs false

def wideB (rows : List (List Int)) (m : Nat) : Bool := anyB (fun i => decide (m < (nthR rows i).length)) rows.length
set_option maxHeartbeats 1000000 in
theorem wide_any (rows : List (List Int)) (m : Nat) (v : Value) (w : World) (h : IsRows w w.heap.size v rows) :
    Calls Tryz.prog 25 #[v, .int .i64 m] w fun e w' => e = .returned (.bool (wideB rows m)) ∧ w = w' := by
  obtain ⟨a, c, rfl, _, _, h3⟩ := h.open
  have H3 := Lib.hid h3
  clear h h3
  go_enter Tryz.func25, Tryz.ntmps25
  go_wp2_with fail
  go_loopw [9] (fun i wr => ∃ k : Nat, k ≤ rows.length ∧ i = .int .i64 k ∧ Hid (∀ j, j < k → (nthR rows j).length ≤ m) ∧ w = wr) (fun i _ => rows.length - (intOf i).toNat)
  case atStart => exact ⟨0, Nat.zero_le _, rfl, fun j hj => by omega, rfl⟩
  case round =>
    obtain ⟨k, hk, rfl, hdone, rfl⟩ := hrel
    by_cases hlt : k < rows.length
    · have hki : (k : Int) < rows.length := by omega
      obtain ⟨b, off, u, rfl, hbl, hcell, hru⟩ := H3.out k hlt
      obtain ⟨_, _, rfl, _, l1, _⟩ := hru.open
      clear hru
      by_cases hw : m < (nthR rows k).length
      · have HW := Lib.hid hw
        go_wp2_with fail
        go_ret
        exact ⟨ret_bool (by unfold wideB; rw [anyB_true hlt (by simpa using HW.out)]), rfl⟩
      · have hw2 : (nthR rows k).length ≤ m := by omega
        have HW := Lib.hid hw2
        go_wp2_with fail
        go_roundw
        case rel =>
          refine ⟨k + 1, by omega, by go_num, fun j hj => ?_, by simp⟩
          rcases Nat.lt_succ_iff_lt_or_eq.1 hj with q | q
          · exact hdone.out j q
          · subst q; exact HW.out
        case measure => simp [intOf]; omega
    · obtain rfl : k = rows.length := by omega
      go_wp2_with fail
      go_ret
      exact ⟨ret_bool (by unfold wideB; rw [anyB_false (fun i hi => by simpa using hdone.out i hi)]), rfl⟩

def longB (c : Col) : Bool := decide (8 < c.rooms.length) || decide (8 < c.traps.length) || decide (14 < c.runs.length) || decide (8 < c.nights.length) || wideB c.nights 8
theorem short_of {c : Col} (h : longB c = false) (hr : ∀ x ∈ c.rooms, I64 x) (ht : ∀ x ∈ c.traps, I64 x) (hu : ∀ p ∈ c.runs, I64 p.1 ∧ I64 p.2) (hn : ∀ r ∈ c.nights, ∀ x ∈ r, I64 x) : Short c := by
  unfold longB at h
  simp only [Bool.or_eq_false_iff, decide_eq_false_iff_not, Nat.not_lt] at h
  obtain ⟨⟨⟨⟨h1, h2⟩, h3⟩, h4⟩, h5⟩ := h
  refine ⟨⟨h1, hr⟩, ⟨h2, ht⟩, ⟨h3, hu⟩, h4, fun r hr => ⟨?_, hn r hr⟩⟩
  obtain ⟨i, hi, rfl⟩ := List.getElem_of_mem hr
  unfold wideB anyB at h5
  rw [List.any_eq_false] at h5
  have := h5 i (List.mem_range.2 hi)
  rw [nthR_eq hi] at this
  simpa using this

theorem rows_i64 {w : World} {B : Nat} {v : Value} {rows : List (List Int)} (h : IsRows w B v rows) : ∀ r ∈ rows, ∀ x ∈ r, I64 x := by
  intro r hr
  obtain ⟨i, hi, rfl⟩ := List.getElem_of_mem hr
  obtain ⟨f, _, h2⟩ := h
  have := (h2 i hi).2
  rwa [nthR_eq hi] at this
set_option maxRecDepth 100000 in
set_option maxHeartbeats 2000000 in
theorem long_any (c : Col) (r t u n : Value) (w : World) (hc : ColAt w w.heap.size r t u n c) :
    Calls Tryz.prog 5 #[.agg #[r, t, u, n]] w fun e w' => e = .returned (.bool (longB c)) ∧ Below w.heap.size w w' := by
  have hBW : Below w.heap.size w (w.alloc (.cells #[r, t, u, n] 26)) := (Below.refl _ w).alloc (Nat.le_refl _) _
  have HWD := Lib.hid (wide_any c.nights 8 n _ (hc.on hBW).2.2.2)
  obtain ⟨hr, htr, hu, hn⟩ := hc
  obtain ⟨ar, cr, rfl, _⟩ := hr.open
  obtain ⟨at_, ct, rfl, _⟩ := htr.open
  obtain ⟨au, cu, rfl, _⟩ := hu.open
  obtain ⟨an, cn, rfl, _⟩ := hn.open
  have HB := Lib.hid hBW
  have hL : longB c = (decide (8 < c.rooms.length) || decide (8 < c.traps.length) || decide (14 < c.runs.length) || decide (8 < c.nights.length) || wideB c.nights 8) := rfl
  clear hr htr hu hn hBW
  by_cases h1 : 8 < c.rooms.length
  · rw [show longB c = true by rw [hL]; simp [h1]]
    clear hL
    go_enter Tryz.func5, Tryz.ntmps5
    go_wp2_with fail
    go_ret
    exact ⟨rfl, HB.out⟩
  · by_cases h2 : 8 < c.traps.length
    · rw [show longB c = true by rw [hL]; simp [h2]]
      clear hL
      go_enter Tryz.func5, Tryz.ntmps5
      go_wp2_with fail
      go_ret
      exact ⟨rfl, HB.out⟩
    · by_cases h3 : 14 < c.runs.length
      · rw [show longB c = true by rw [hL]; simp [h3]]
        clear hL
        go_enter Tryz.func5, Tryz.ntmps5
        go_wp2_with fail
        go_ret
        exact ⟨rfl, HB.out⟩
      · by_cases h4 : 8 < c.nights.length
        · rw [show longB c = true by rw [hL]; simp [h4]]
          clear hL
          go_enter Tryz.func5, Tryz.ntmps5
          go_wp2_with fail
          go_ret
          exact ⟨rfl, HB.out⟩
        · rw [show longB c = wideB c.nights 8 by rw [hL]; simp [h1, h2, h3, h4]]
          have i1 : decide ((8 : Int) < c.rooms.length) = false := by simp; omega
          have i2 : decide ((8 : Int) < c.traps.length) = false := by simp; omega
          have i3 : decide ((14 : Int) < c.runs.length) = false := by simp; omega
          have i4 : decide ((8 : Int) < c.nights.length) = false := by simp; omega
          clear hL
          go_enter Tryz.func5, Tryz.ntmps5
          go_wp2_with (go_at_call 25; refine HWD.out.mono ?_; rintro e w5 ⟨rfl, rfl⟩)
          go_ret
          exact ⟨rfl, HB.out⟩

set_option maxRecDepth 100000 in
set_option maxHeartbeats 2000000 in
theorem same_any (c : Col) (r t u n r' t' u' n' : Value) (w : World) (hc : ColAt w w.heap.size r t u n c) (hc' : ColAt w w.heap.size r' t' u' n' c) :
    Calls Tryz.prog 16 #[.agg #[r, t, u, n], .agg #[r', t', u', n']] w fun e w' => e = .returned (.bool true) ∧ Below w.heap.size w w' := by
  have hBW : Below w.heap.size w ((w.alloc (.cells #[r, t, u, n] 26)).alloc (.cells #[r', t', u', n'] 26)) := ((Below.refl _ w).alloc (Nat.le_refl _) _).alloc (by simp) _
  have k0 : ((w.alloc (.cells #[r, t, u, n] 26)).alloc (.cells #[r', t', u', n'] 26)).heap[w.heap.size]? = some (.cells #[r, t, u, n] 26 (0, 0)) := keep _ (blk _ _ _ _ rfl)
  have k1 : ((w.alloc (.cells #[r, t, u, n] 26)).alloc (.cells #[r', t', u', n'] 26)).heap[w.heap.size + 1]? = some (.cells #[r', t', u', n'] 26 (0, 0)) := blk _ _ _ _ (by simp)
  have HC := Lib.hid (And.intro (hc.on hBW) (hc'.on hBW))
  obtain ⟨hr, htr, hu, hn⟩ := hc
  obtain ⟨ar, cr, rfl, _⟩ := hr.open
  obtain ⟨at_, ct, rfl, _⟩ := htr.open
  obtain ⟨au, cu, rfl, _⟩ := hu.open
  obtain ⟨an, cn, rfl, _⟩ := hn.open
  obtain ⟨hr', htr', hu', hn'⟩ := hc'
  obtain ⟨ar', cr', rfl, _⟩ := hr'.open
  obtain ⟨at_', ct', rfl, _⟩ := htr'.open
  obtain ⟨au', cu', rfl, _⟩ := hu'.open
  obtain ⟨an', cn', rfl, _⟩ := hn'.open
  have HB := Lib.hid hBW
  have HK := Lib.hid (And.intro k0 k1)
  clear hr htr hu hn hr' htr' hu' hn' hBW k0 k1
  have A1 := Lib.hid (alike_any _ _ _ _ _ HC.out.1.1 HC.out.2.1)
  have A2 := Lib.hid (alike_any _ _ _ _ _ HC.out.1.2.1 HC.out.2.2.1)
  have A3 := Lib.hid (alikeRun_any _ _ _ _ _ HC.out.1.2.2.1 HC.out.2.2.2.1)
  have A4 : Hid (∀ W, Below ((w.alloc (.cells #[.slice ar c.rooms.length cr, .slice at_ c.traps.length ct, .slice au c.runs.length cu, .slice an c.nights.length cn] 26)).alloc (.cells #[.slice ar' c.rooms.length cr', .slice at_' c.traps.length ct', .slice au' c.runs.length cu', .slice an' c.nights.length cn'] 26)).heap.size ((w.alloc (.cells #[.slice ar c.rooms.length cr, .slice at_ c.traps.length ct, .slice au c.runs.length cu, .slice an c.nights.length cn] 26)).alloc (.cells #[.slice ar' c.rooms.length cr', .slice at_' c.traps.length ct', .slice au' c.runs.length cu', .slice an' c.nights.length cn'] 26)) W → Calls Tryz.prog 60 #[.slice an c.nights.length cn, .slice an' c.nights.length cn'] W fun e w' => e = .returned (.bool true) ∧ W = w') := fun W hW => (alikeRows_any _ _ _ _ W ((HC.out.1.2.2.2.below hW (Nat.le_refl _)).mono hW.size) ((HC.out.2.2.2.2.below hW (Nat.le_refl _)).mono hW.size)).mono fun e w' ⟨h1, h2⟩ => ⟨by rw [h1]; simp, h2⟩
  have A3' := A3.out
  simp only [decide_true] at A3'
  have A3'' := Lib.hid A3'
  have A1' := A1.out
  simp only [decide_true] at A1'
  have A1'' := Lib.hid A1'
  have A2' := A2.out
  simp only [decide_true] at A2'
  have A2'' := Lib.hid A2'
  clear A1 A2 A3 A1' A2' A3'
  go_enter Tryz.func16, Tryz.ntmps16
  go_wp2_with fail
  refine A1''.out.mono ?_
  rintro e w5 ⟨rfl, rfl⟩
  go_wp2_with fail
  refine A2''.out.mono ?_
  rintro e w6 ⟨rfl, rfl⟩
  go_wp2_with fail
  refine A3''.out.mono ?_
  rintro e w7 ⟨rfl, hb7⟩
  have p0 := blk_on HK.out.1 hb7
  have p1 := blk_on HK.out.2 hb7
  have d3 := (cell_of_row _ _ 3 _ _ _ p0).trans rfl
  have e3 := (cell_of_row _ _ 3 _ _ _ p1).trans rfl
  have HA4 := Lib.hid (A4.out _ hb7)
  have H7 := Lib.hid (HB.out.trans (hb7.mono HB.out.size))
  clear p0 p1 hb7 A4 A1'' A2'' A3''
  go_wp2_with (go_at_call 60; refine HA4.out.mono ?_; rintro e w8 ⟨rfl, rfl⟩)
  go_ret
  exact ⟨rfl, H7.out⟩
end Go.Proofs.YtnhifinfjfpoiaaGreat
