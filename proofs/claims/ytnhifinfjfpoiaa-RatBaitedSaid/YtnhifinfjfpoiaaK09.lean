/- Contracts of the copies of lists: numbers, runs, rows. What a truth is, in plain Lean; and that what the share gives is one, with the most rats or with the fewest. Contracts of slices.Clone over integers, of rat.sum, and of the law's count. Contracts of the statements' chute: numbers below a bound, whatever bytes it holds. Contracts of the chute's Between, In, Fill, and of Wrap. Numbers in rows, each row a block of its own: what stands in them, and how it turns. Contract of CopyRows over a matrix: its rows lie in new blocks, each in one of its own. What 'run' of the statements does to rats: some of them go along runs; none is lost. Regions that draw their order: what is taken first, what is left out. A row of one's own stays as it is where a block of another type turns. A slice of noughts made. Rows of one's own, read. Contract of the statements' run: rats go along runs. -/
import Derived.Test.YtnhifinfjfpoiaaK08
import Derived.Test.YtnhifinfjfpoiaaK07
import Derived.Test.YtnhifinfjfpoiaaK01
import Derived.Lib.LazyBuf
import Derived.Deep.AppendLies
import Derived.StillTailTactics
import Derived.Deep.DeepCutAuto
import Derived.Deep.RegionHeld3
import Derived.OwnWalk
namespace Go.Proofs.Ytnhifinfjfpoiaa
open Go.RowKit
set_option linter.unusedVariables false

theorem owns_grown {W W' : World} {b e sz n : Nat} {v : Value} {xs : List Value} {row : Option Nat} (h : W.ownsRow b e sz v n xs) (hg : W.grownBy W' row) (hne : ∀ g cs, W.heap[g]? = some (.cells cs e (0, 0)) → some g ≠ row) : W'.ownsRow b e sz v n xs := by
  obtain ⟨hl, h | ⟨g, cap, cur, rfl, hb, hc, hn, hm, hs, ht⟩⟩ := h
  · exact ⟨hl, .inl h⟩
  · exact ⟨hl, .inr ⟨g, cap, cur, rfl, hb, (hg.block g (Array.getElem?_eq_some_iff.1 hc).1 (hne g cur hc)).trans hc, hn, hm, hs, ht⟩⟩

set_option maxRecDepth 100000 in
set_option maxHeartbeats 1000000 in
theorem copyI_any (xs : List Int) (v : Value) (w : World) (h : IsInts w w.heap.size v xs) (h100 : xs.length ≤ 100) :
    Calls Try.prog 44 #[v] w fun e w' => ∃ v', e = .returned v' ∧ w'.ownsRow w.heap.size 3 1 v' xs.length (intsV xs) ∧ Below w.heap.size w w' := by
  obtain ⟨a, c, rfl, _, _, h3⟩ := h.open
  obtain ⟨i0, hi, hz0, hz1, hz2⟩ := info_parts infoInt
  have H3 := Lib.hid h3
  clear h h3
  rcases Nat.eq_zero_or_pos xs.length with h0 | h0
  · have hx : xs = [] := List.length_eq_zero_iff.1 h0
    subst hx
    simp only [List.length_nil] at *
    go_enter Try.func44, Try.ntmps44
    go_wp2_with fail
    go_ret
    exact ⟨_, rfl, World.ownsRow_nil _ _ _ _, Below.refl _ _⟩
  · have hne : (xs.length == 0) = false := beq_eq_false_iff_ne.2 (by omega)
    have hnz : ¬ (xs.length : Int) = 0 := by omega
    obtain ⟨b, off, rfl, hb, _⟩ := H3.out 0 h0
    go_enter Try.func44, Try.ntmps44
    go_wp2_with (at_builtin; refine wpList_append_own _ rfl _ _ 22 rfl w.heap.size 3 i0 (.int .i64 0) 1 8 Try.underlying22 hi hz0 hz1 hz2 rfl (by decide) _ _ _ rfl (World.ownsRow_made w #[] 0 (Nat.le_refl _) (Nat.zero_le _) rfl) ⟨b, off, none⟩ xs.length c (intsV xs) rfl ?qc1 ?qc2 ?qc3 ?qc4 ?qc5 ?qc6 ?_)
    case qc1 => simp [intsV]
    case qc2 =>
      intro j u hj
      have hjn : j < xs.length := by
        have := (List.getElem?_eq_some_iff.1 hj).1
        simpa [intsV] using this
      obtain ⟨b', off', e', _, hcell⟩ := H3.out j hjn
      cases e'
      rw [Addr.add_lit]
      refine Lib.cell?_alloc_some _ ?_
      rw [hcell, ← hj]
      simp [intsV, nth, hjn]
    case qc3 => intro u hu; obtain ⟨x, _, rfl⟩ := List.mem_map.1 hu; rfl
    case qc4 => unfold maxLen; omega
    case qc5 => omega
    case qc6 => simp
    intro v' w1 hown hgrow hnil
    have HO := Lib.hid hown; have HG := Lib.hid hgrow
    clear hown hgrow hnil
    go_wp2_with fail
    go_ret
    refine ⟨v', rfl, by simpa using HO.out, ?_⟩
    exact ((Below.refl _ w).alloc (Nat.le_refl _) _).grown HG.out (by simp) (by intro k hk; simp [Value.ownBlock] at hk; omega)

theorem infoRun : (Try.prog.info? 63).map (fun i => (i.zero, i.size, i.bytes)) = some (some (.agg #[.int .i64 0, .int .i64 0]), 2, 16) := by kernel_rfl
set_option maxRecDepth 100000 in
set_option maxHeartbeats 1000000 in
theorem copyR_any (xs : List (Int × Int)) (v : Value) (w : World) (h : IsPairs w w.heap.size v xs) (h100 : xs.length ≤ 100) :
    Calls Try.prog 77 #[v] w fun e w' => ∃ v', e = .returned v' ∧ w'.ownsRow w.heap.size 63 2 v' xs.length (pairsV xs) ∧ Below w.heap.size w w' := by
  obtain ⟨a, c, rfl, _, _, h3⟩ := h.open
  obtain ⟨i0, hi, hz0, hz1, hz2⟩ := info_parts infoRun
  have H3 := Lib.hid h3
  clear h h3
  rcases Nat.eq_zero_or_pos xs.length with h0 | h0
  · have hx : xs = [] := List.length_eq_zero_iff.1 h0
    subst hx
    simp only [List.length_nil] at *
    go_enter Try.func77, Try.ntmps77
    go_wp2_with fail
    go_ret
    exact ⟨_, rfl, World.ownsRow_nil _ _ _ _, Below.refl _ _⟩
  · have hne : (xs.length == 0) = false := beq_eq_false_iff_ne.2 (by omega)
    have hnz : ¬ (xs.length : Int) = 0 := by omega
    obtain ⟨b, off, rfl, hb, _⟩ := H3.out 0 h0
    go_enter Try.func77, Try.ntmps77
    go_wp2_with (at_builtin; refine wpList_append_own _ rfl _ _ 23 rfl w.heap.size 63 i0 (.agg #[.int .i64 0, .int .i64 0]) 2 16 Try.underlying23 hi hz0 hz1 hz2 rfl (by decide) _ _ _ rfl (World.ownsRow_made w #[] 0 (Nat.le_refl _) (Nat.zero_le _) rfl) ⟨b, off, none⟩ xs.length c (pairsV xs) rfl ?qc1 ?qc2 ?qc3 ?qc4 ?qc5 ?qc6 ?_)
    case qc1 => exact pairsV_len xs
    case qc2 =>
      intro j u hj
      have hjn : j < xs.length * 2 := by
        have := (List.getElem?_eq_some_iff.1 hj).1
        rwa [pairsV_len] at this
      obtain ⟨b', off', e', _, m1, m2⟩ := H3.out (j / 2) (by omega)
      cases e'
      rw [Addr.add_lit]
      refine Lib.cell?_alloc_some _ ?_
      rw [pairsV_get xs j hjn] at hj
      rw [← hj]
      unfold pcell
      by_cases q : j % 2 = 0
      · rw [if_pos q, show off + j = off + j / 2 * 2 from by omega]; exact m1
      · rw [if_neg q, show off + j = off + j / 2 * 2 + 1 from by omega]; exact m2
    case qc3 =>
      intro u hu
      obtain ⟨x, _, hx⟩ := List.mem_flatMap.1 hu
      simp at hx
      rcases hx with rfl | rfl <;> rfl
    case qc4 => unfold maxLen; omega
    case qc5 => omega
    case qc6 => simp
    intro v' w1 hown hgrow hnil
    have HO := Lib.hid hown; have HG := Lib.hid hgrow
    clear hown hgrow hnil
    go_wp2_with fail
    go_ret
    refine ⟨v', rfl, by simpa using HO.out, ?_⟩
    exact ((Below.refl _ w).alloc (Nat.le_refl _) _).grown HG.out (by simp) (by intro k hk; simp [Value.ownBlock] at hk; omega)

theorem infoRow : (Try.prog.info? 22).map (fun i => (i.zero, i.size, i.bytes)) = some (some (.slice none 0 0), 1, 24) := by kernel_rfl
/-- A list of rows, each in memory of its own. -/
def OwnRows (w : World) (B : Nat) (v : Value) (rows : List (List Int)) : Prop :=
  ∃ vs : List Value, w.ownsRow B 22 1 v rows.length vs ∧ ∀ j, j < rows.length → w.ownsRow B 3 1 (vs.getD j (.slice none 0 0)) (nthR rows j).length (intsV (nthR rows j))
theorem OwnRows.below {w w' : World} {B : Nat} {v : Value} {rows : List (List Int)} (h : OwnRows w B v rows) (hb : Below w.heap.size w w') : OwnRows w' B v rows := by
  obtain ⟨vs, h1, h2⟩ := h
  exact ⟨vs, owns_below h1 hb, fun j hj => owns_below (h2 j hj) hb⟩
theorem OwnRows.rows {w : World} {B : Nat} {v : Value} {rows : List (List Int)} (h : OwnRows w B v rows) (hl : rows.length ≤ 100) (hr : ∀ r ∈ rows, r.length ≤ 100 ∧ ∀ x ∈ r, I64 x) : IsRows w w.heap.size v rows := by
  obtain ⟨vs, ⟨hvl, h1⟩, h2⟩ := h
  refine ⟨fun j => vs.getD j (.slice none 0 0), ?_, fun j hj => nums_of_owns (h2 j hj) (hr _ (nthR_mem hj)).2 (by have := (hr _ (nthR_mem hj)).1; omega)⟩
  rcases h1 with ⟨rfl, hn⟩ | ⟨g, cap, cur, rfl, hg, hc, hn, hm, hs, ht⟩
  · exact ⟨none, 0, by rw [hn], by omega, by omega, .inl hn⟩
  · refine ⟨some ⟨g, 0, none⟩, cap, rfl, hn, by omega, .inr ⟨g, 0, rfl, (Array.getElem?_eq_some_iff.1 hc).1, fun j hj => ?_⟩⟩
    refine (cell_of_row w g (0 + j) _ _ _ hc).trans ?_
    rw [Nat.mul_one] at ht hj hvl
    have this : j < cur.toList.length := by simp; omega
    have e2 : (List.take rows.length cur.toList).getD j (.slice none 0 0) = cur.toList[j]'this := by rw [List.getD_eq_getElem?_getD, List.getElem?_take, if_pos hj, List.getElem?_eq_getElem this]; rfl
    rw [Nat.zero_add, ← Array.getElem?_toList, ← ht]
    show _ = some ((List.take rows.length cur.toList).getD j (.slice none 0 0))
    rw [e2, List.getElem?_eq_getElem this]

set_option maxRecDepth 100000 in
set_option maxHeartbeats 1000000 in
theorem copyRows_any (rows : List (List Int)) (v : Value) (w : World) (h : IsRows w w.heap.size v rows) (h100 : rows.length ≤ 100) (hr100 : ∀ r ∈ rows, r.length ≤ 100) :
    Calls Try.prog 65 #[v] w fun e w' => ∃ v', e = .returned v' ∧ OwnRows w' w.heap.size v' rows ∧ Below w.heap.size w w' := by
  obtain ⟨a, c, rfl, _, _, h3⟩ := h.open
  obtain ⟨i0, hi, hz0, hz1, hz2⟩ := info_parts infoRow
  have H3 := Lib.hid h3
  have HR := Lib.hid hr100
  clear h h3 hr100
  go_enter Try.func65, Try.ntmps65
  go_wp2_with fail
  go_loopw [3, 8] (fun o i wr => ∃ k : Nat, k ≤ rows.length ∧ i = .int .i64 k ∧ Hid (OwnRows wr w.heap.size o (rows.take k) ∧ Below w.heap.size w wr)) (fun _ i _ => rows.length - (intOf i).toNat)
  case atStart => exact ⟨0, Nat.zero_le _, rfl, ⟨[], World.ownsRow_nil _ _ _ _, fun j hj => by simp at hj⟩, Below.refl _ _⟩
  case round =>
    obtain ⟨k, hk, rfl, hrel⟩ := hrel
    by_cases hlt : k < rows.length
    · have hki : (k : Int) < rows.length := by omega
      obtain ⟨b, off, u, rfl, hbl, hcell, hru⟩ := H3.out k hlt
      have m1 := (hrel.out.2.cell (p := ⟨b, off + k, none⟩) hbl).trans hcell
      have HCP := Lib.hid (copyI_any _ _ wr ((hru.below hrel.out.2 (Nat.le_refl _)).mono hrel.out.2.size) (HR.out _ (nthR_mem hlt)))
      obtain ⟨_, _, rfl, _⟩ := hru.open
      obtain ⟨vs, hvs1, hvs2⟩ := hrel.out.1
      have hlen : (rows.take k).length = k := by simp; omega
      rw [hlen] at hvs1 hvs2
      have hsz := hrel.out.2.size
      have HV := Lib.hid (And.intro hvs1 hvs2)
      clear hcell hru hvs1 hvs2 hlen
      go_wp2_with fail
      refine HCP.out.mono ?_
      rintro e w1 ⟨x, rfl, hx, hb1⟩
      obtain ⟨ax, cx, rfl⟩ := owns_slice hx
      have hsz1 := hb1.size
      have HO := Lib.hid ((owns_below HV.out.1 hb1).alloc (.cells #[.slice ax (nthR rows k).length cx] 22))
      have HX := Lib.hid (And.intro hx hb1)
      clear hx hb1 HCP
      go_wp2_with (at_builtin; refine wpList_append_own _ rfl _ _ 24 rfl w.heap.size 22 i0 (.slice none 0 0) 1 24 Try.underlying24 hi hz0 hz1 hz2 rfl (by decide) _ _ _ rfl HO.out ⟨w1.heap.size, 0, none⟩ 1 1 [.slice ax (nthR rows k).length cx] rfl rfl (cell_one_new _ _ _) (fun y hy => by simp at hy; subst hy; rfl) (by unfold maxLen; omega) (by omega) (by simp; omega) ?_; intro v' w2 hown' hgrow _; have HG := Lib.hid (And.intro hown' hgrow); clear hown' hgrow)
      obtain ⟨hown', hgrow⟩ := HG.out
      obtain ⟨hx, hb1⟩ := HX.out
      have hbA : Below w.heap.size w (w1.alloc (.cells #[.slice ax (nthR rows k).length cx] 22)) := (hrel.out.2.trans (hb1.mono hsz)).alloc (by omega) _
      have hbA1 : Below w1.heap.size w1 (w1.alloc (.cells #[.slice ax (nthR rows k).length cx] 22)) := (Below.refl _ _).alloc (Nat.le_refl _) _
      have hkeep : ∀ {y : Value} {n : Nat} {xs : List Value}, w1.ownsRow w.heap.size 3 1 y n xs → w2.ownsRow w.heap.size 3 1 y n xs := fun {y n xs} hy =>
        owns_grown (owns_below hy hbA1) hgrow (fun g cs hg => not_own HO.out hg (by decide))
      have hnew : OwnRows w2 w.heap.size v' (rows.take (k + 1)) := by
        have hl1 : (rows.take (k + 1)).length = k + 1 := by simp; omega
        refine ⟨vs ++ [.slice ax (nthR rows k).length cx], by rw [hl1]; exact hown', fun j hj => ?_⟩
        rw [hl1] at hj
        have hvl : vs.length = k := by have := HV.out.1.1; simpa using this
        have e1 : nthR (rows.take (k + 1)) j = nthR rows j := by
          unfold nthR
          rw [List.getD_eq_getElem?_getD, List.getD_eq_getElem?_getD, List.getElem?_take, if_pos hj]
        rw [e1]
        by_cases q : j < k
        · have e2 : nthR (rows.take k) j = nthR rows j := by
            unfold nthR
            rw [List.getD_eq_getElem?_getD, List.getD_eq_getElem?_getD, List.getElem?_take, if_pos q]
          have h5 := HV.out.2 j q
          rw [e2] at h5
          have e3 : (vs ++ [Value.slice ax (nthR rows k).length cx]).getD j (.slice none 0 0) = vs.getD j (.slice none 0 0) := by
            rw [List.getD_eq_getElem?_getD, List.getD_eq_getElem?_getD, List.getElem?_append_left (by omega)]
          rw [e3]
          exact hkeep (owns_below h5 hb1)
        · obtain rfl : j = k := by omega
          have e3 : (vs ++ [Value.slice ax (nthR rows j).length cx]).getD j (.slice none 0 0) = .slice ax (nthR rows j).length cx := by
            rw [List.getD_eq_getElem?_getD, List.getElem?_append_right (by omega), hvl]; simp
          rw [e3]
          have hx2 : w1.ownsRow w.heap.size 3 1 (.slice ax (nthR rows j).length cx) (nthR rows j).length (intsV (nthR rows j)) := by
            obtain ⟨hl, q | ⟨g, cap, cur, e, hg, hr⟩⟩ := hx
            · exact ⟨hl, .inl q⟩
            · exact ⟨hl, .inr ⟨g, cap, cur, e, by omega, hr⟩⟩
          exact hkeep hx2
      have hB2 := below_grown hbA hgrow (fun r hr => (HO.out.lt r hr).1) (by simp; omega)
      have HN := Lib.hid (And.intro hnew hB2)
      clear hnew hB2 hown' hgrow hx hb1 hbA hbA1 hkeep
      go_wp2_with fail
      go_roundw
      case rel => exact ⟨k + 1, by omega, by go_num, HN.out⟩
      case measure => simp [intOf]; omega
    · obtain rfl : k = rows.length := by omega
      rw [List.take_length] at hrel
      go_wp2_with fail
      go_ret
      exact ⟨_, rfl, hrel.out⟩
end Go.Proofs.Ytnhifinfjfpoiaa

namespace Go.Proofs.Ytnhifinfjfpoiaa
open Go.RowKit
set_option linter.unusedVariables false

/-- Rows T, and a row L of those that are left, are a truth of a colony. -/
structure FitsP (c : Col) (T : List (List Int)) (L : List Int) : Prop where
  cell : ∀ k, k < (needsC c).length → ∀ h, h < c.rooms.length → 0 ≤ nth (nthR T k) h ∧ (0 < nth (nthR T k) h → (frm (needsC c) k).testBit h = true)
  row : ∀ k, k < (needsC c).length → sumN (nth (nthR T k)) c.rooms.length = (nthP (needsC c) k).1
  left : ∀ h, h < c.rooms.length → 0 ≤ nth L h ∧ (0 < nth L h → (unionN (leftC c)).testBit h = true)
  col : ∀ h, h < c.rooms.length → sumN (fun k => nth (nthR T k) h) (needsC c).length + nth L h ≤ nth c.rooms h

theorem sumN_cut {f : Nat → Int} {n : Nat} : ∀ {m : Nat}, n ≤ m → (∀ i, n ≤ i → i < m → f i = 0) → sumN f m = sumN f n
  | 0, h, _ => by have : n = 0 := by omega
                  subst this; rfl
  | m + 1, h, hz => by
    by_cases e : n = m + 1
    · subst e; rfl
    · rw [sumN_succ, sumN_cut (m := m) (by omega) (fun i h1 h2 => hz i h1 (by omega)), hz m (by omega) (by omega), Int.add_zero]

theorem fold_fed (nl : List (Int × Int)) (rl : List Int) (hrl : ∀ h, h < 6 → 0 ≤ nth rl h ∧ nth rl h ≤ 1000) (hnl : ∀ k, k < nl.length → 0 ≤ rats nl k) : ∀ n, n ≤ nl.length → Fed nl (nth rl) n 0 ((List.range n).foldl (shNeed nl) (sh0 rl)) := by
  intro n
  induction n with
  | zero =>
    intro _
    refine ⟨⟨fun h hh => (hrl h hh).1, fun _ _ _ _ => Int.le_refl _, fun _ _ _ _ h => absurd h (by show ¬ (0 : Int) < 0; decide), fun h hh => ?_⟩, ?_, fun o _ _ => sumN_zero 6, fun _ => sumN_zero 6, fun o h => by omega, ⟨fun _ => false, fun _ _ h => (by cases h), fun o h => (by omega)⟩, fun _ o h => (by omega), fun h => (by cases h)⟩
    · show nth rl h + sumN (fun _ => 0) nl.length = _
      rw [sumN_zero]; omega
    · show (0 : Int) = sumN (fun o => sumN (fun _ => 0) 6) nl.length
      simp only [sumN_zero]
  | succ n ih =>
    intro hn
    rw [List.range_succ, List.foldl_append]
    simp only [List.foldl_cons, List.foldl_nil]
    have h1 := hnl n (by omega)
    exact shRep_fed (fun h hh => (hrl h hh).2) n (by omega) _ 0 _ (ih (by omega)) (by unfold rats at *; omega)

/-- Rats of one need leave those of all others as many as they were. -/
theorem shRep_other {nl : List (Int × Int)} {r0 : Nat → Int} (hr0 : ∀ h, h < 6 → r0 h ≤ 1000) (k : Nat) (hk : k < nl.length) : ∀ (n : Nat) (x : Sh), Good (frm nl) nl.length r0 x.room x.giv → ∀ o, o ≠ k → perNeed (shRep nl k n x).giv o = perNeed x.giv o
  | 0, x, _, o, _ => rfl
  | n + 1, x, g, o, ho => by
    have z64 : (0 : Nat) < 64 := by decide
    cases q : (putF nl k x.room x.giv).1
    · rw [shRep_no q]
      have hs : (putF nl k x.room x.giv).2.room = x.room ∧ (putF nl k x.room x.giv).2.giv = x.giv := tryF_fail _ _ 7 k _ q
      have eg : (x.no (putF nl k x.room x.giv).2).giv = x.giv := hs.2
      rw [eg]
    · rw [shRep_yes q]
      have st : Step (frm nl) nl.length r0 k ⟨0, x.room, x.giv⟩ (putF nl k x.room x.giv).2 := tryF_step (frm nl) nl.length r0 hr0 7 k ⟨0, x.room, x.giv⟩ hk z64 g q
      have h1 := shRep_other hr0 k hk n (x.yes (putF nl k x.room x.giv).2) st.good o ho
      rw [h1]
      exact st.other o ho

/-- The share of what was caught, and of some rats more. -/
def findX (c : Col) (x : Int) : Sh := shareF (needsC c ++ [(x, ((unionN (leftC c) : Nat) : Int))]) c.rooms
def findT (c : Col) (x : Int) : List (List Int) := (List.range (needsC c).length).map fun k => (List.range c.rooms.length).map ((findX c x).giv k)
def findL (c : Col) (x : Int) : List Int := (List.range c.rooms.length).map ((findX c x).giv (needsC c).length)
theorem nth_range (f : Nat → Int) (n i : Nat) (h : i < n) : nth ((List.range n).map f) i = f i := by simp [nth, h]
theorem findT_at {c : Col} {x : Int} {k h : Nat} (hk : k < (needsC c).length) (hh : h < c.rooms.length) : nth (nthR (findT c x) k) h = (findX c x).giv k h := by
  have e : nthR (findT c x) k = (List.range c.rooms.length).map ((findX c x).giv k) := by simp [findT, nthR, hk]
  rw [e, nth_range _ _ _ hh]
theorem findL_at {c : Col} {x : Int} {h : Nat} (hh : h < c.rooms.length) : nth (findL c x) h = (findX c x).giv (needsC c).length h := nth_range _ _ _ hh

theorem frm_app (nl : List (Int × Int)) (q : Int × Int) {k : Nat} (h : k < nl.length) : frm (nl ++ [q]) k = frm nl k := by
  unfold frm; rw [nthP_app, if_pos h]
theorem rats_at (nl : List (Int × Int)) (q : Int × Int) {k : Nat} (h : k < nl.length) : rats (nl ++ [q]) k = rats nl k := by
  unfold rats; rw [nthP_app, if_pos h]
theorem frm_last (nl : List (Int × Int)) (x : Int) (f : Nat) : frm (nl ++ [(x, (f : Int))]) nl.length = f := by
  unfold frm; rw [nthP_app, if_neg (Nat.lt_irrefl _), if_pos rfl]; simp

theorem rooms_ok {c : Col} (ok : OkCol c) : ∀ h, h < 6 → 0 ≤ nth c.rooms h ∧ nth c.rooms h ≤ 1000 := fun h hh => by have := ok.rooms6 h hh; omega

/-- All that were caught have room, whatever others are asked behind them. -/
theorem find_whole {c : Col} (hk : fitErr c = 0) {x : Int} (hx : 0 ≤ x) : Fed (needsC c ++ [(x, ((unionN (leftC c) : Nat) : Int))]) (nth c.rooms) ((needsC c).length + 1) 0 (findX c x) ∧
    ∀ k, k < (needsC c).length → perNeed (findX c x).giv k = rats (needsC c) k := by
  have ok := okCol_of (fit_parts hk).1
  obtain ⟨q, hq⟩ : ∃ q : Int × Int, (x, ((unionN (leftC c) : Nat) : Int)) = q := ⟨_, rfl⟩
  have hnn : ∀ k, k < (needsC c ++ [q]).length → 0 ≤ rats (needsC c ++ [q]) k := by rw [← hq]; exact rats_app (needs_nonneg ok) hx
  have hl : (needsC c ++ [q]).length = (needsC c).length + 1 := by simp
  have f1 := fold_fed (needsC c ++ [q]) c.rooms (rooms_ok ok) hnn (needsC c).length (by omega)
  have f2 := fold_fed (needsC c ++ [q]) c.rooms (rooms_ok ok) hnn ((needsC c).length + 1) (by omega)
  have e : findX c x = (List.range ((needsC c).length + 1)).foldl (shNeed (needsC c ++ [q])) (sh0 c.rooms) := by
    unfold findX shareF; rw [hq, hl]
  rw [hq, e]
  refine ⟨f2, fun k hkl => ?_⟩
  rw [List.range_succ, List.foldl_append]
  simp only [List.foldl_cons, List.foldl_nil]
  obtain ⟨y, hy⟩ : ∃ y, (List.range (needsC c).length).foldl (shNeed (needsC c ++ [q])) (sh0 c.rooms) = y := ⟨_, rfl⟩
  rw [hy] at f1 ⊢
  have ho : perNeed (shNeed (needsC c ++ [q]) y (needsC c).length).giv k = perNeed y.giv k :=
    shRep_other (fun h hh => (rooms_ok ok h hh).2) _ (by omega) _ y f1.good k (by omega)
  rw [ho, ← rats_at (needsC c) q hkl]
  cases ht : y.torn
  · exact f1.whole ht k hkl
  · exfalso
    obtain ⟨_, s2, o, s3, s4, s5, s6⟩ := f1.short ht
    have hw := within_tight f1.good s2
    have hc : cutC (needsC c) (nth c.rooms) = totC c := by rw [← fit_cut ok, fit_all hk]
    have h3 := cut_le (needsC c) (nth c.rooms) y.short.testBit
    have h4 := all_split (needsC c) (rats (needsC c)) y.short.testBit
    have h5 : sumN (rats (needsC c)) (needsC c).length = totC c := rfl
    have h6 : sumN (fun o => if subB (frm (needsC c) o) y.short.testBit = true then rats (needsC c) o else 0) (needsC c).length ≤ roomsOf (nth c.rooms) y.short.testBit := by
      unfold elsewhere at h3; omega
    have h7 : withinOf (frm (needsC c ++ [q])) (needsC c ++ [q]).length y.giv y.short.testBit = sumN (fun o => if subB (frm (needsC c) o) y.short.testBit = true then perNeed y.giv o else 0) (needsC c).length := by
      unfold withinOf
      rw [hl, sumN_succ, f1.now (by omega)]
      have : (if subB (frm (needsC c ++ [q]) (needsC c).length) y.short.testBit = true then (0 : Int) else 0) = 0 := by split <;> rfl
      rw [this, Int.add_zero]
      exact sumN_congr fun i hi => by rw [frm_app _ _ hi]
    have h8 : sumN (fun o => if subB (frm (needsC c) o) y.short.testBit = true then perNeed y.giv o else 0) (needsC c).length < sumN (fun o => if subB (frm (needsC c) o) y.short.testBit = true then rats (needsC c) o else 0) (needsC c).length := by
      refine sumN_lt (k := o) (fun i hi => ?_) s3 ?_
      · split
        · have := f1.most i hi
          rw [rats_at _ _ hi] at this; exact this
        · exact Int.le_refl _
      · have hs : subB (frm (needsC c) o) y.short.testBit = true := by rw [← frm_app (needsC c) q s3]; exact subB_iff.2 s5
        rw [if_pos hs, if_pos hs, ← rats_at (needsC c) q s3]; exact s6
    omega

theorem find_good {c : Col} (hk : fitErr c = 0) {x : Int} (hx : 0 ≤ x) : Good (frm (needsC c ++ [(x, ((unionN (leftC c) : Nat) : Int))])) ((needsC c).length + 1) (nth c.rooms) (findX c x).room (findX c x).giv := by
  have h := (find_whole hk hx).1.good
  rw [show (needsC c ++ [(x, ((unionN (leftC c) : Nat) : Int))]).length = (needsC c).length + 1 by simp] at h
  exact h
theorem find_row {c : Col} (hk : fitErr c = 0) {x : Int} (hx : 0 ≤ x) {k : Nat} (hkl : k < (needsC c).length + 1) : perNeed (findX c x).giv k = sumN ((findX c x).giv k) c.rooms.length := by
  have g := find_good hk hx
  have ok := okCol_of (fit_parts hk).1
  refine sumN_cut ok.houses.2 fun i h1 h2 => ?_
  have a := (g.le hkl h2).2
  have b := g.giv k i hkl h2
  have e : nth c.rooms i = 0 := by simp [nth, h1]
  omega

/-- What is found is a truth. -/
theorem find_fits {c : Col} (hk : fitErr c = 0) {x : Int} (hx : 0 ≤ x) : FitsP c (findT c x) (findL c x) := by
  have g := find_good hk hx
  have ok := okCol_of (fit_parts hk).1
  have w := (find_whole hk hx).2
  have o2 := ok.houses.2
  refine ⟨fun k hkl h hh => ?_, fun k hkl => ?_, fun h hh => ?_, fun h hh => ?_⟩
  · rw [findT_at hkl hh]
    refine ⟨g.giv k h (by omega) (by omega), fun hp => ?_⟩
    have := g.supp k h (by omega) (by omega) hp
    rw [frm_app _ _ hkl] at this; exact this
  · have e : sumN (nth (nthR (findT c x) k)) c.rooms.length = sumN ((findX c x).giv k) c.rooms.length := sumN_congr fun i hi => findT_at hkl hi
    rw [e, ← find_row hk hx (by omega)]
    exact w k hkl
  · rw [findL_at hh]
    refine ⟨g.giv _ h (by omega) (by omega), fun hp => ?_⟩
    have := g.supp _ h (by omega) (by omega) hp
    rw [frm_last] at this; exact this
  · rw [findL_at hh]
    have ht := g.tot h (by omega)
    have hr := g.room h (by omega)
    rw [sumN_succ] at ht
    have e : sumN (fun k => nth (nthR (findT c x) k) h) (needsC c).length = sumN (fun k => (findX c x).giv k h) (needsC c).length := sumN_congr fun i hi => findT_at hi hh
    rw [e]; omega

/-- How many rats a truth has. -/
def countT (T : List (List Int)) (L : List Int) (n K : Nat) : Int := sumN (nth L) n + sumN (fun k => sumN (nth (nthR T k)) n) K
theorem find_count {c : Col} (hk : fitErr c = 0) {x : Int} (hx : 0 ≤ x) : countT (findT c x) (findL c x) c.rooms.length (needsC c).length = (findX c x).all := by
  have f := (find_whole hk hx).1
  rw [f.all, show (needsC c ++ [(x, ((unionN (leftC c) : Nat) : Int))]).length = (needsC c).length + 1 by simp, sumN_succ]
  unfold countT
  have e1 : sumN (nth (findL c x)) c.rooms.length = perNeed (findX c x).giv (needsC c).length := by
    rw [find_row hk hx (by omega)]; exact sumN_congr fun i hi => findL_at hi
  have e2 : sumN (fun k => sumN (nth (nthR (findT c x) k)) c.rooms.length) (needsC c).length = sumN (perNeed (findX c x).giv) (needsC c).length := sumN_congr fun k hkl => by
    rw [find_row hk hx (by omega)]; exact sumN_congr fun i hi => findT_at hkl hi
  rw [e1, e2]; omega
theorem find_most {c : Col} (hk : fitErr c = 0) : (findX c 361).all = (ratsC c).2 := by
  have ok := okCol_of (fit_parts hk).1
  rw [rats_more ok]
  have f := (find_whole hk (show (0 : Int) ≤ 361 by decide)).1
  rw [← show (needsC c ++ [((361 : Int), ((unionN (leftC c) : Nat) : Int))]).length = (needsC c).length + 1 by simp] at f
  exact f.cut
theorem find_least {c : Col} (hk : fitErr c = 0) : (findX c 0).all = (ratsC c).1 := by
  have ok := okCol_of (fit_parts hk).1
  obtain ⟨f, w⟩ := find_whole hk (Int.le_refl 0)
  rw [f.all, show (needsC c ++ [((0 : Int), ((unionN (leftC c) : Nat) : Int))]).length = (needsC c).length + 1 by simp, sumN_succ]
  have e1 : sumN (perNeed (findX c 0).giv) (needsC c).length = totC c := sumN_congr fun k hkl => w k hkl
  have e2 : perNeed (findX c 0).giv (needsC c).length = 0 := by
    have a := f.most (needsC c).length (by omega)
    have b : rats (needsC c ++ [((0 : Int), ((unionN (leftC c) : Nat) : Int))]) (needsC c).length = 0 := by
      unfold rats; rw [nthP_app, if_neg (Nat.lt_irrefl _), if_pos rfl]
    have d : 0 ≤ perNeed (findX c 0).giv (needsC c).length := sumN_nonneg fun i hi => (find_good hk (Int.le_refl 0)).giv _ i (by omega) hi
    omega
  rw [e1, e2, Int.add_zero]
  show totC c = (fitX c).all
  exact (fit_all hk).symm
end Go.Proofs.Ytnhifinfjfpoiaa

namespace Go.Proofs.Ytnhifinfjfpoiaa
open Go.RowKit
set_option linter.unusedVariables false
set_option linter.unusedSimpArgs false

theorem four_at {W : World} {p t : Nat} {a b c d : Value} (h : W.heap[p]? = some (.cells #[a, b, c, d] t (0, 0))) : W.cell? ⟨p, 0, none⟩ = some a ∧ W.cell? ⟨p, 1, none⟩ = some b ∧ W.cell? ⟨p, 2, none⟩ = some c ∧ W.cell? ⟨p, 3, none⟩ = some d :=
  ⟨(cell_of_row _ _ 0 _ _ _ h).trans rfl, (cell_of_row _ _ 1 _ _ _ h).trans rfl, (cell_of_row _ _ 2 _ _ _ h).trans rfl, (cell_of_row _ _ 3 _ _ _ h).trans rfl⟩
set_option maxRecDepth 100000 in
set_option maxHeartbeats 1000000 in
theorem clone_any (xs : List Int) (v : Value) (w : World) (h : IsInts w w.heap.size v xs) (h100 : xs.length ≤ 100) (h0 : 0 < xs.length) :
    Calls Try.prog 130 #[v] w fun e w' => ∃ g q, e = .returned (.slice (some ⟨g, 0, none⟩) xs.length q) ∧ w'.ownsRow w.heap.size 3 1 (.slice (some ⟨g, 0, none⟩) xs.length q) xs.length (intsV xs) ∧ Below w.heap.size w w' ∧ g < w'.heap.size := by
  obtain ⟨a, c, rfl, _, _, h3⟩ := h.open
  obtain ⟨i0, hi, hz0, hz1, hz2⟩ := info_parts infoInt
  have H3 := Lib.hid h3
  clear h h3
  obtain ⟨b, off, rfl, hb, _⟩ := H3.out 0 h0
  have heq := fun W => run_eql_slice_nil (P := Try.prog) W 22 3 (some ⟨b, off, none⟩) xs.length c Try.underlying22
  have hisn : Option.isNone (some (⟨b, off, none⟩ : Addr)) = false := rfl
  go_enter Try.func130, Try.ntmps130
  go_wp2_with (at_builtin; refine wpList_append_lies _ rfl _ _ 22 rfl w.heap.size 3 i0 (.int .i64 0) 1 8 Try.underlying22 hi hz0 hz1 hz2 rfl (by decide) _ _ _ rfl (World.ownsRow_made w #[] 0 (Nat.le_refl _) (Nat.zero_le _) rfl) ⟨b, off, none⟩ xs.length c (intsV xs) rfl ?qc1 ?qc2 ?qc3 h0 ?qc4 ?qc5 ?qc6 (w.heap.size + 1) (by simp) ?_)
  case qc1 => simp [intsV]
  case qc2 =>
    intro j u hj
    have hjn : j < xs.length := by
      have := (List.getElem?_eq_some_iff.1 hj).1
      simpa [intsV] using this
    obtain ⟨b', off', e', _, hcell⟩ := H3.out j hjn
    cases e'
    rw [Addr.add_lit]
    refine Lib.cell?_alloc_some _ ?_
    rw [hcell, ← hj]
    simp [intsV, nth, hjn]
  case qc3 => intro u hu; obtain ⟨x, _, rfl⟩ := List.mem_map.1 hu; rfl
  case qc4 => unfold maxLen; omega
  case qc5 => omega
  case qc6 => simp
  intro g q w1 hown hgrow hat hlt
  have HO := Lib.hid hown; have HG := Lib.hid hgrow
  clear hown hgrow hat hlt
  go_wp2_with fail
  go_ret
  refine ⟨g, q, rfl, HO.out, ?_, (HO.out.lt g rfl).2⟩
  exact ((Below.refl _ w).alloc (Nat.le_refl _) _).grown HG.out (by simp) (by intro k hk; simp [Value.ownBlock] at hk; omega)

theorem sumN_step {f : Nat → Int} {b : Int} {n : Nat} (h : ∀ i, i < n → 0 ≤ f i ∧ f i ≤ b) : ∀ k, k ≤ n → 0 ≤ sumN f k ∧ sumN f k ≤ b * k := fun k hk =>
  ⟨sumN_nonneg fun i hi => (h i (by omega)).1, sumN_bound fun i hi => (h i (by omega)).2⟩

set_option maxRecDepth 100000 in
set_option maxHeartbeats 1000000 in
/-- The sum of a list of numbers. -/
theorem sum_any (xs : List Int) (v : Value) (w : World) (h : IsInts w w.heap.size v xs) (h100 : xs.length ≤ 100) (hb : ∀ i, i < xs.length → 0 ≤ nth xs i ∧ nth xs i ≤ 1000) :
    Calls Try.prog 112 #[v] w fun e w' => e = .returned (.int .i64 (sumN (nth xs) xs.length)) ∧ w = w' := by
  obtain ⟨a, c, rfl, _, _, h3⟩ := h.open
  have H3 := Lib.hid h3
  have HB := Lib.hid hb
  clear h h3 hb
  go_enter Try.func112, Try.ntmps112
  go_wp2_with fail
  go_loopw [3, 8] (fun v i wr => ∃ k : Nat, k ≤ xs.length ∧ i = .int .i64 k ∧ v = .int .i64 (sumN (nth xs) k) ∧ wr = w) (fun _ i _ => xs.length - (intOf i).toNat)
  case atStart => exact ⟨0, Nat.zero_le _, rfl, rfl, rfl⟩
  case round =>
    obtain ⟨k, hk, rfl, rfl, rfl⟩ := hrel
    have hs := sumN_step HB.out k hk
    by_cases hlt : k < xs.length
    · have hki : (k : Int) < xs.length := by omega
      obtain ⟨b, off, rfl, hbl, hcell⟩ := H3.out k hlt
      have hx := HB.out k hlt
      go_wp2_with fail
      go_roundw
      case rel => exact ⟨k + 1, by omega, by go_num, by rw [sumN_succ], by simp⟩
      case measure => simp [intOf]; omega
    · obtain rfl : k = xs.length := by omega
      go_wp2_with fail
      go_ret
      exact ⟨rfl, rfl⟩

set_option maxRecDepth 100000 in
set_option maxHeartbeats 1000000 in
/-- How many rats a truth has: those that are left, and those of each row. -/
theorem count_any (T : List (List Int)) (L : List Int) (n : Nat) (tv lv : Value) (w : World) (ht : IsRows w w.heap.size tv T) (hl : IsInts w w.heap.size lv L) (hT : T.length ≤ 100) (hL : L.length = n) (hn : n ≤ 100)
    (hrow : ∀ k, k < T.length → (nthR T k).length = n) (hbl : ∀ h, h < n → 0 ≤ nth L h ∧ nth L h ≤ 1000) (hbt : ∀ k h, k < T.length → h < n → 0 ≤ nth (nthR T k) h ∧ nth (nthR T k) h ≤ 1000) :
    Calls Try.prog 69 #[.agg #[tv, lv]] w fun e w' => e = .returned (.int .i64 (countT T L n T.length)) ∧ Below w.heap.size w w' := by
  subst hL
  obtain ⟨at_, ct, rfl, _, _, t3⟩ := ht.open
  obtain ⟨al, cl, rfl, _, _, l3⟩ := hl.open
  have hBW := (Below.refl w.heap.size w).alloc (Nat.le_refl _) (.cells #[.slice at_ T.length ct, .slice al L.length cl] 55)
  have c0 : (w.alloc (.cells #[.slice at_ T.length ct, .slice al L.length cl] 55)).cell? ⟨w.heap.size, 0, none⟩ = some (.slice at_ T.length ct) := by simp [go_sem]
  have c1 : (w.alloc (.cells #[.slice at_ T.length ct, .slice al L.length cl] 55)).cell? ⟨w.heap.size, 1, none⟩ = some (.slice al L.length cl) := by simp [go_sem]
  have T3 := Lib.hid t3; have L3 := Lib.hid l3; have HBL := Lib.hid hbl; have HBT := Lib.hid hbt; have HROW := Lib.hid hrow; have HB := Lib.hid hBW
  clear ht hl t3 l3 hbl hbt hrow hBW
  go_enter Try.func69, Try.ntmps69
  go_wp2_with fail
  obtain ⟨W1, hW1⟩ : ∃ W1, w.alloc (.cells #[.slice at_ T.length ct, .slice al L.length cl] 55) = W1 := ⟨_, rfl⟩
  rw [hW1] at c0 c1 HB ⊢
  clear hW1
  go_loopw [3, 13] (fun v i wr => ∃ k : Nat, k ≤ L.length ∧ i = .int .i64 k ∧ v = .int .i64 (sumN (nth L) k) ∧ W1 = wr) (fun _ i _ => L.length - (intOf i).toNat)
  case atStart => exact ⟨0, Nat.zero_le _, rfl, rfl, rfl⟩
  case round =>
    obtain ⟨k, hk, rfl, rfl, rfl⟩ := hrel
    have hs := sumN_step HBL.out k hk
    by_cases hlt : k < L.length
    · have hki : (k : Int) < L.length := by omega
      obtain ⟨b, off, rfl, hbl, hcell⟩ := L3.out k hlt
      have hc := (HB.out.cell (p := ⟨b, off + k, none⟩) hbl).trans hcell
      have hx := HBL.out k hlt
      clear hcell
      go_wp2_with fail
      go_roundw
      case rel => exact ⟨k + 1, by omega, by go_num, by rw [sumN_succ], by simp⟩
      case measure => simp [intOf]; omega
    · obtain rfl : k = L.length := by omega
      go_wp2_with fail
      go_loopw [3, 24] (fun v i wr => ∃ k : Nat, k ≤ T.length ∧ i = .int .i64 k ∧ v = .int .i64 (sumN (nth L) L.length + sumN (fun k => sumN (nth (nthR T k)) L.length) k) ∧ W1 = wr) (fun _ i _ => T.length - (intOf i).toNat)
      case atStart => exact ⟨0, Nat.zero_le _, rfl, by simp [sumN], rfl⟩
      case round =>
        obtain ⟨k, hk, rfl, rfl, rfl⟩ := hrel
        have hs2 : ∀ j, j < T.length → 0 ≤ sumN (nth (nthR T j)) L.length ∧ sumN (nth (nthR T j)) L.length ≤ 100000 := fun j hj => by
          have := sumN_step (fun h hh => HBT.out j h hj hh) L.length (Nat.le_refl _); omega
        have hs3 := sumN_step hs2 k hk
        by_cases hlt : k < T.length
        · have hki : (k : Int) < T.length := by omega
          obtain ⟨b, off, u, rfl, hbl, hcell, hru⟩ := T3.out k hlt
          obtain ⟨ar, cr, rfl, _, _, r3⟩ := hru.open
          have hc := (HB.out.cell (p := ⟨b, off + k, none⟩) hbl).trans hcell
          have hln := HROW.out k hlt
          rw [hln] at hc r3
          have R3 := Lib.hid r3
          obtain ⟨S, hS⟩ : ∃ S, sumN (fun k => sumN (nth (nthR T k)) L.length) k = S := ⟨_, rfl⟩
          obtain ⟨S0, hS0⟩ : ∃ S, sumN (nth L) L.length = S := ⟨_, rfl⟩
          rw [hS] at hs3 ⊢
          rw [hS0] at hs ⊢
          have HSS := Lib.hid (And.intro hS hS0)
          clear hcell hru r3 hln hs2 hS hS0
          go_wp2_with fail
          go_loopw [3, 30] (fun v i wr => ∃ j : Nat, j ≤ L.length ∧ i = .int .i64 j ∧ v = .int .i64 (S0 + S + sumN (nth (nthR T k)) j) ∧ W1 = wr) (fun _ i _ => L.length - (intOf i).toNat)
          case atStart => exact ⟨0, Nat.zero_le _, rfl, by simp [sumN], rfl⟩
          case round =>
            obtain ⟨j, hj, rfl, rfl, rfl⟩ := hrel
            have hs4 := sumN_step (fun h hh => HBT.out k h hlt hh) j hj
            by_cases hjl : j < L.length
            · have hji : (j : Int) < L.length := by omega
              obtain ⟨b2, off2, rfl, hbl2, hcell2⟩ := R3.out j hjl
              have hc2 := (HB.out.cell (p := ⟨b2, off2 + j, none⟩) hbl2).trans hcell2
              have hx := HBT.out k j hlt hjl
              clear hcell2
              go_wp2_with fail
              go_roundw
              case rel => exact ⟨j + 1, by omega, by go_num, by rw [sumN_succ, Int.add_assoc (S0 + S)], by simp⟩
              case measure => simp [intOf]; omega
            · obtain rfl : j = L.length := by omega
              go_wp2_with fail
              go_roundw
              case rel => exact ⟨k + 1, by omega, by go_num, by rw [sumN_succ, ← HSS.out.1, ← HSS.out.2, Int.add_assoc], by simp⟩
              case measure => simp [intOf]; omega
        · obtain rfl : k = T.length := by omega
          go_wp2_with fail
          go_ret
          exact ⟨rfl, HB.out⟩
end Go.Proofs.Ytnhifinfjfpoiaa

namespace Go.Proofs.Ytnhifinfjfpoiaa
open Go.RowKit
set_option linter.unusedVariables false
set_option linter.unusedSimpArgs false

/-- Nothing that stood has turned, but block p. -/
structure Turned (p : Nat) (w w' : World) : Prop where
  os : w'.os = w.os
  tape : w'.tape = w.tape
  output : w'.output = w.output
  size : w.heap.size ≤ w'.heap.size
  block : ∀ k, k < w.heap.size → k ≠ p → w'.heap[k]? = w.heap[k]?
theorem Turned.refl (p : Nat) (w : World) : Turned p w w := ⟨rfl, rfl, rfl, Nat.le_refl _, fun _ _ _ => rfl⟩
theorem Turned.trans {p : Nat} {w w' w'' : World} (h : Turned p w w') (k : Turned p w' w'') : Turned p w w'' :=
  ⟨k.os.trans h.os, k.tape.trans h.tape, k.output.trans h.output, Nat.le_trans h.size k.size, fun i hi h1 => (k.block i (Nat.lt_of_lt_of_le hi h.size) h1).trans (h.block i hi h1)⟩
theorem Turned.of {p B : Nat} {w w' : World} (h : Below B w w') (hB : w.heap.size ≤ B) : Turned p w w' := ⟨h.os, h.tape, h.output, h.size, fun k hk _ => h.block k (Nat.lt_of_lt_of_le hk hB)⟩
theorem Turned.below {p B : Nat} {w w' : World} (h : Turned p w w') (hB : B ≤ w.heap.size) (h1 : B ≤ p) : Below B w w' := ⟨h.os, h.tape, h.output, h.size, fun k hk => h.block k (by omega) (by omega)⟩
theorem Turned.drew {p : Nat} {w w' : World} (h : Turned p w w') : Turned p w w'.drew := ⟨h.os, h.tape, h.output, h.size, h.block⟩
theorem Turned.set {p o : Nat} {w w' : World} (h : Turned p w w') (v : Value) : Turned p w (w'.setCell ⟨p, o, none⟩ v) := by
  refine ⟨h.os, h.tape, h.output, by simpa using h.size, fun k hk h1 => ?_⟩
  rw [← h.block k hk h1]
  exact Below.heap_setCell _ _ _ _ h1
theorem Turned.cell {p : Nat} {w w' : World} (h : Turned p w w') {a : Addr} (ha : a.block < w.heap.size) (h1 : a.block ≠ p) : w'.cell? a = w.cell? a := World.cell?_of_block (h.block _ ha h1)

/-- A slice of bytes in blocks below B. -/
def IsBytes (w : World) (B : Nat) (v : Value) (xs : List Int) : Prop := SlAt w B v xs.length 1 (fun j => .int .u8 (nth xs j)) ∧ ∀ x ∈ xs, 0 ≤ x ∧ x ≤ 255
theorem IsBytes.turned {w w' : World} {p : Nat} {v : Value} {xs : List Int} (h : IsBytes w p v xs) (ht : Turned p w w') (hp : p < w.heap.size) : IsBytes w' p v xs :=
  ⟨h.1.below (ht.below (Nat.le_of_lt hp) (Nat.le_refl _)) (Nat.le_refl _), h.2⟩
theorem IsBytes.open {w : World} {B : Nat} {v : Value} {xs : List Int} (h : IsBytes w B v xs) :
    ∃ (a : Option Addr) (cap : Nat), v = .slice a xs.length cap ∧ xs.length ≤ cap ∧ xs.length ≤ 140737488355328 ∧ (∀ i, i < xs.length → ∃ b off, a = some ⟨b, off, none⟩ ∧ b < B ∧ w.cell? ⟨b, off + i, none⟩ = some (.int .u8 (nth xs i)) ∧ 0 ≤ nth xs i ∧ nth xs i ≤ 255) := by
  obtain ⟨⟨a, cap, hv, h1, h2, h3⟩, h4⟩ := h
  refine ⟨a, cap, hv, h1, h2, fun i hi => ?_⟩
  rcases h3 with h3 | ⟨b, off, ha, hlt, hc⟩
  · omega
  · have := h4 _ (nth_mem hi)
    exact ⟨b, off, ha, hlt, hc i (by omega), this.1, this.2⟩
/-- Block p is a chute of some bytes. -/
structure ChuteAt (w : World) (p : Nat) (v : Value) (xs : List Int) : Prop where
  blk : ∃ used stir : Int, w.heap[p]? = some (.cells #[v, .int .i64 used, .int .u64 stir] 144 (0, 0)) ∧ 0 ≤ used ∧ used ≤ xs.length ∧ 0 ≤ stir
  bytes : IsBytes w p v xs
theorem ChuteAt.lt {w : World} {p : Nat} {v : Value} {xs : List Int} (h : ChuteAt w p v xs) : p < w.heap.size := by
  obtain ⟨_, _, h1, _⟩ := h.blk
  exact (Array.getElem?_eq_some_iff.1 h1).1
theorem ChuteAt.below {w w' : World} {p : Nat} {v : Value} {xs : List Int} (h : ChuteAt w p v xs) (hb : Below w.heap.size w w') : ChuteAt w' p v xs := by
  have hp := h.lt
  obtain ⟨u, s, h1, h2⟩ := h.blk
  exact ⟨⟨u, s, (hb.block p hp).trans h1, h2⟩, h.bytes.1.below hb (by omega), h.bytes.2⟩
theorem chute_cells {w : World} {p t : Nat} {a b c : Value} (h : w.heap[p]? = some (.cells #[a, b, c] t (0, 0))) : w.cell? ⟨p, 0, none⟩ = some a ∧ w.cell? ⟨p, 1, none⟩ = some b ∧ w.cell? ⟨p, 2, none⟩ = some c ∧ w.frozen? ⟨p, 1, none⟩ = false ∧ w.frozen? ⟨p, 2, none⟩ = false :=
  ⟨(cell_of_row _ _ 0 _ _ _ h).trans rfl, (cell_of_row _ _ 1 _ _ _ h).trans rfl, (cell_of_row _ _ 2 _ _ _ h).trans rfl, frozen_of_row _ _ 1 _ _ h, frozen_of_row _ _ 2 _ _ h⟩

def MixPost (p : Nat) (v : Value) (used : Int) (w : World) (e : Ending) (w' : World) : Prop :=
  e = .returned (.tuple #[]) ∧ ∃ s : Int, w'.heap[p]? = some (.cells #[v, .int .i64 used, .int .u64 s] 144 (0, 0)) ∧ 0 ≤ s ∧ Turned p w w'
theorem mixPost_mk {p : Nat} {v : Value} {used x y : Int} {w W1 : World} (h : W1.heap[p]? = some (.cells #[v, .int .i64 used, .int .u64 x] 144 (0, 0))) (ht : Turned p w W1) (hy : 0 ≤ y) : MixPost p v used w (.returned (.tuple #[])) (W1.setCell ⟨p, 2, none⟩ (.int .u64 y)) :=
  ⟨rfl, y, by rw [heap_setCell_same _ p 2 _ _ _ h]; rfl, hy, ht.set _⟩
set_option maxRecDepth 100000 in
set_option maxHeartbeats 1000000 in
theorem mix_any (p : Nat) (v : Value) (used stir b : Int) (w : World) (hc : w.heap[p]? = some (.cells #[v, .int .i64 used, .int .u64 stir] 144 (0, 0))) :
    Calls Try.prog 107 #[.pointer (some ⟨p, 0, none⟩), .int .u8 b] w (MixPost p v used w) := by
  obtain ⟨c0, c1, c2, f1, f2⟩ := chute_cells hc
  go_enter Try.func107, Try.ntmps107
  go_upto_region 0 with (fail)
  go_still_tail 22, (by kernel_rfl)
  change wpList _ _ _ _ _ w.drew
  generalize bits _ _ _ _ = x
  have hd : w.drew.heap[p]? = some (.cells #[v, .int .i64 used, .int .u64 stir] 144 (0, 0)) := hc
  have hw1 : (w.drew.setCell ⟨p, 2, none⟩ (.int .u64 x)).heap[p]? = some (.cells #[v, .int .i64 used, .int .u64 x] 144 (0, 0)) := by rw [heap_setCell_same _ p 2 _ _ _ hd]; rfl
  have hT1 := (Turned.refl p w).drew.set (o := 2) (.int .u64 x)
  obtain ⟨W1, hW1⟩ : ∃ W1, w.drew.setCell ⟨p, 2, none⟩ (.int .u64 x) = W1 := ⟨_, rfl⟩
  rw [hW1] at hw1 hT1
  obtain ⟨d0, d1, d2, g1, g2⟩ := chute_cells hw1
  have HT := Lib.hid (And.intro hw1 hT1)
  clear hc hd hw1 hT1
  go_wp2_with fail
  refine bodyPost_end (v := .tuple #[]) (by simp [results, Try.results107, go_sem]) rfl (mixPost_mk HT.out.1 HT.out.2 (wrap_u64_nonneg _))
/-- A number below a bound (or 0), and the chute as it is behind it. -/
def PullPost (p : Nat) (v : Value) (xs : List Int) (n : Int) (w : World) (e : Ending) (w' : World) : Prop :=
  ∃ x : Int, e = .returned (.int .i64 x) ∧ 0 ≤ x ∧ (x < n ∨ x = 0) ∧ ChuteAt w' p v xs ∧ Turned p w w'
set_option maxRecDepth 100000 in
set_option maxHeartbeats 4000000 in
theorem pull_any (p : Nat) (v : Value) (xs : List Int) (n : Int) (w : World) (hc : ChuteAt w p v xs) (hn : n ≤ 256) (hn0 : -1000 ≤ n) :
    Calls Try.prog 38 #[.pointer (some ⟨p, 0, none⟩), .int .i64 n] w (PullPost p v xs n w) := by
  obtain ⟨used, stir, hblk, hu0, hu1, hs0⟩ := hc.blk
  obtain ⟨a, cap, rfl, _, h140, hcell⟩ := hc.bytes.open
  obtain ⟨c0, c1, c2, f1, f2⟩ := chute_cells hblk
  have HC := Lib.hid hc
  have HBK := Lib.hid hblk
  have HCE := Lib.hid hcell
  clear hc hblk hcell
  by_cases h2 : n < 2
  · go_enter Try.func38, Try.ntmps38
    go_wp2_with fail
    go_ret
    exact ⟨0, rfl, by omega, .inr rfl, HC.out, Turned.refl _ _⟩
  by_cases hl0 : xs.length = 0
  · have hl0' : xs = [] := List.length_eq_zero_iff.1 hl0
    subst hl0'
    simp only [List.length_nil] at *
    go_enter Try.func38, Try.ntmps38
    go_wp2_with fail
    go_ret
    exact ⟨0, rfl, by omega, .inr rfl, HC.out, Turned.refl _ _⟩
  have hlp : (0 : Int) < xs.length := by omega
  have hlz : ((xs.length : Int) == 0) = false := beq_eq_false_iff_ne.2 (by omega)
  have hlz2 : ¬ (xs.length : Int) = 0 := by omega
  clear hl0
  have hn256 : ¬ (256 : Int) < n := by omega
  by_cases hu : used < xs.length
  · obtain ⟨U, rfl⟩ : ∃ U : Nat, used = U := ⟨used.toNat, by omega⟩
    have hU : U < xs.length := by omega
    obtain ⟨b, off, rfl, hbl, hce, hx0, hx1⟩ := HCE.out U hU
    obtain ⟨x, hx⟩ : ∃ x, nth xs U = x := ⟨_, rfl⟩
    rw [hx] at hce hx0 hx1
    have hbp : b ≠ p := by omega
    clear hx
    have hw1 : IntKind.i64.wrap ((U : Int) + 1) = (U : Int) + 1 := by rw [IntKind.wrap_i64]; omega
    have hd2 : decide ((U : Int) < xs.length) = true := by simpa using hu
    have hd3 : decide ((256 : Int) < n) = false := by simpa using hn256
    cases hd : decide ((U : Int) + 1 < xs.length)
    all_goals
      go_enter Try.func38, Try.ntmps38
      go_wp2_with fail
      go_quiet (fail)
      go_wp2_with fail
      go_quiet (fail)
      go_wp2_with fail
      go_quiet (fail)
      go_wp2_with fail
      generalize hW3 : w.drewN _ = W3
      have h3 : W3.heap[p]? = some (.cells #[.slice (some ⟨b, off, none⟩) xs.length cap, .int .i64 U, .int .u64 stir] 144 (0, 0)) := by rw [← hW3]; exact HBK.out
      have ht3 : Turned p w W3 := by rw [← hW3]; exact ⟨rfl, rfl, rfl, Nat.le_refl _, fun _ _ _ => rfl⟩
      refine (mix_any p (.slice (some ⟨b, off, none⟩) xs.length cap) ((U : Int) + 1) stir x _ (by rw [heap_setCell_same _ p 1 _ _ _ h3]; rfl)).mono ?_
      rintro e w2 ⟨rfl, s2, hs2, hs20, ht2⟩
      have htw : Turned p w w2 := Turned.trans (ht3.set _) ht2
      clear hW3 h3 ht3
      have HF : Hid (ChuteAt w2 p (.slice (some ⟨b, off, none⟩) xs.length cap) xs ∧ Turned p w w2) := ⟨⟨⟨_, s2, hs2, by omega, by omega, hs20⟩, HC.out.bytes.turned htw HC.out.lt⟩, htw⟩
      have hm0 : 0 ≤ x % n := Int.emod_nonneg _ (by omega)
      have hm1 : x % n < n := Int.emod_lt_of_pos _ (by omega)
      have HM := Lib.hid (And.intro hm0 hm1)
      clear hs2 ht2 htw hm0 hm1
      go_wp2_with fail
      go_ret
      exact ⟨_, rfl, HM.out.1, .inl HM.out.2, HF.out.1, HF.out.2⟩
  · obtain ⟨U, rfl⟩ : ∃ U : Nat, used = U := ⟨used.toNat, by omega⟩
    have hw1 : IntKind.i64.wrap ((U : Int) + 1) = (U : Int) + 1 := by rw [IntKind.wrap_i64]; omega
    have hd : decide ((U : Int) + 1 < xs.length) = false := by simp; omega
    have hd2 : decide ((U : Int) < xs.length) = false := by simp; omega
    have hwl : IntKind.u64.wrap (xs.length : Int) = xs.length := by rw [IntKind.wrap_u64]; omega
    obtain ⟨i, hi⟩ : ∃ i : Nat, stir % (xs.length : Int) = i := ⟨(stir % (xs.length : Int)).toNat, by have := Int.emod_nonneg stir (show (xs.length : Int) ≠ 0 by omega); omega⟩
    have htm : stir.tmod (xs.length : Int) = i := by rw [Int.tmod_eq_emod_of_nonneg hs0, hi]
    have hne : ¬ xs = [] := fun h => by rw [h] at hlp; simp at hlp
    have hil : i < xs.length := by have := Int.emod_lt_of_pos stir hlp; omega
    have hili : (i : Int) < xs.length := by omega
    have hwi : IntKind.i64.wrap (i : Int) = i := by rw [IntKind.wrap_i64]; omega
    obtain ⟨b, off, rfl, hbl, hce, hx0, hx1⟩ := HCE.out i hil
    obtain ⟨x, hx⟩ : ∃ x, nth xs i = x := ⟨_, rfl⟩
    rw [hx] at hce hx0 hx1
    have hbp : b ≠ p := by omega
    clear hx
    go_enter Try.func38, Try.ntmps38
    go_wp2_with fail
    go_quiet (fail)
    go_wp2_with fail
    go_quiet (fail)
    go_wp2_with fail
    generalize hW3 : World.drewN _ _ = W3
    have h3 : W3.heap[p]? = some (.cells #[.slice (some ⟨b, off, none⟩) xs.length cap, .int .i64 U, .int .u64 stir] 144 (0, 0)) := by rw [← hW3]; exact HBK.out
    have ht3 : Turned p w W3 := by rw [← hW3]; exact ⟨rfl, rfl, rfl, Nat.le_refl _, fun _ _ _ => rfl⟩
    have hce3 : W3.cell? ⟨b, off + i, none⟩ = some (.int .u8 x) := by rw [← hW3]; exact hce
    obtain ⟨d0, d1, d2, g1, g2⟩ := chute_cells h3
    have H3 := Lib.hid (And.intro h3 ht3)
    clear hW3 h3 ht3 hce c0 c1 c2 f1 f2
    go_still_tail 19, (by kernel_rfl)
    go_wp2_with fail
    refine (mix_any p (.slice (some ⟨b, off, none⟩) xs.length cap) (U : Int) stir x W3.drew H3.out.1).mono ?_
    rintro e w2 ⟨rfl, s2, hs2, hs20, ht2⟩
    obtain ⟨e0, e1, e2, _, _⟩ := chute_cells hs2
    have htw := Turned.trans H3.out.2.drew ht2
    have HF : Hid (ChuteAt w2 p (.slice (some ⟨b, off, none⟩) xs.length cap) xs ∧ Turned p w w2) := ⟨⟨⟨_, s2, hs2, by omega, by omega, hs20⟩, HC.out.bytes.turned htw HC.out.lt⟩, htw⟩
    have hwn : IntKind.u64.wrap n = n := by rw [IntKind.wrap_u64]; omega
    have hq0 : 0 ≤ s2 / 1048576 := Int.ediv_nonneg hs20 (by decide)
    obtain ⟨j, hj⟩ : ∃ j, (s2 / 1048576).tmod n = j := ⟨_, rfl⟩
    have hj2 : (s2 / 1048576) % n = j := by rw [← hj, Int.tmod_eq_emod_of_nonneg hq0]
    have hj0 : 0 ≤ j := by rw [← hj2]; exact Int.emod_nonneg _ (by omega)
    have hj1 : j < n := by rw [← hj2]; exact Int.emod_lt_of_pos _ (by omega)
    have hwj : IntKind.i64.wrap j = j := by rw [IntKind.wrap_i64]; omega
    have hn0' : ¬ n = 0 := by omega
    clear hs2 ht2 htw hq0 d0 d1 d2 g1 g2 H3
    go_wp2_with fail
    go_ret
    exact ⟨_, rfl, hj0, .inl hj1, HF.out.1, HF.out.2⟩
end Go.Proofs.Ytnhifinfjfpoiaa

namespace Go.Proofs.Ytnhifinfjfpoiaa
open Go.RowKit
set_option linter.unusedVariables false
set_option linter.unusedSimpArgs false

def BetweenPost (p : Nat) (v : Value) (xs : List Int) (lo hi : Int) (w : World) (e : Ending) (w' : World) : Prop :=
  ∃ x : Int, e = .returned (.int .i64 x) ∧ lo ≤ x ∧ x ≤ hi ∧ ChuteAt w' p v xs ∧ Turned p w w'
set_option maxRecDepth 100000 in
theorem between_any (p : Nat) (v : Value) (xs : List Int) (lo hi : Int) (w : World) (hc : ChuteAt w p v xs) (h : lo ≤ hi) (h0 : -100 ≤ lo) (h1 : hi ≤ 100) :
    Calls Try.prog 37 #[.pointer (some ⟨p, 0, none⟩), .int .i64 lo, .int .i64 hi] w (BetweenPost p v xs lo hi w) := by
  have HC := Lib.hid hc
  clear hc
  go_enter Try.func37, Try.ntmps37
  go_wp2_with fail
  refine (pull_any p v xs _ w HC.out (by omega) (by omega)).mono ?_
  rintro e w1 ⟨x, rfl, hx0, hx1, hc1, ht1⟩
  have hx2 : x ≤ hi - lo := by omega
  have HF := Lib.hid (And.intro hc1 ht1)
  clear hc1 ht1 hx1
  go_wp2_with fail
  go_ret
  exact ⟨_, rfl, by omega, by omega, HF.out.1, HF.out.2⟩
def InPost (p : Nat) (v : Value) (xs : List Int) (w : World) (e : Ending) (w' : World) : Prop :=
  ∃ b : Bool, e = .returned (.bool b) ∧ ChuteAt w' p v xs ∧ Turned p w w'
set_option maxRecDepth 100000 in
theorem chuteIn_any (p : Nat) (v : Value) (xs : List Int) (n : Int) (w : World) (hc : ChuteAt w p v xs) (hn : n ≤ 256) (hn0 : -1000 ≤ n) :
    Calls Try.prog 42 #[.pointer (some ⟨p, 0, none⟩), .int .i64 n] w (InPost p v xs w) := by
  have HC := Lib.hid hc
  clear hc
  go_enter Try.func42, Try.ntmps42
  go_wp2_with fail
  refine (pull_any p v xs n w HC.out hn hn0).mono ?_
  rintro e w1 ⟨x, rfl, hx0, hx1, hc1, ht1⟩
  have HF := Lib.hid (And.intro hc1 ht1)
  clear hc1 ht1 hx1
  go_wp2_with fail
  go_ret
  exact ⟨_, rfl, HF.out.1, HF.out.2⟩
def FillPost (v : Value) (xs : List Int) (w : World) (e : Ending) (w' : World) : Prop :=
  e = .returned (.pointer (some ⟨w.heap.size, 0, none⟩)) ∧ ChuteAt w' w.heap.size v xs ∧ Below w.heap.size w w' ∧ w'.heap.size = w.heap.size + 1
set_option maxRecDepth 100000 in
theorem fill_any (v : Value) (xs : List Int) (w : World) (hb : IsBytes w w.heap.size v xs) :
    Calls Try.prog 35 #[v] w (FillPost v xs w) := by
  have HB := Lib.hid hb
  obtain ⟨a, cap, rfl, _⟩ := hb.open
  clear hb
  go_enter Try.func35, Try.ntmps35
  go_wp2_with fail
  go_ret
  have hbw : ∀ o, Below w.heap.size w (w.alloc o) := fun o => (Below.refl _ _).alloc (Nat.le_refl _) _
  exact ⟨rfl, ⟨⟨0, 8191, heap_alloc_new _ _, by omega, by omega, by omega⟩, HB.out.1.below (hbw _) (Nat.le_refl _), HB.out.2⟩, hbw _, by simp⟩
def WrapPost (n : Int) (w : World) (e : Ending) (w' : World) : Prop := ∃ x : Int, e = .returned (.int .i64 x) ∧ 0 ≤ x ∧ x < n ∧ w = w'
set_option maxRecDepth 100000 in
theorem wrap_any (v n : Int) (w : World) (hn : 1 ≤ n) (hn1 : n ≤ 1000) :
    Calls Try.prog 36 #[.int .i64 v, .int .i64 n] w (WrapPost n w) := by
  obtain ⟨m, hm⟩ : ∃ m, v.tmod n = m := ⟨_, rfl⟩
  have h1 : -n < m := by
    rcases Int.le_total 0 v with h | h
    · have := Int.tmod_nonneg n h; omega
    · have := Int.tmod_lt_of_pos (-v) (show 0 < n by omega); rw [Int.neg_tmod] at this; omega
  have h2 : m < n := by rw [← hm]; exact Int.tmod_lt_of_pos _ (by omega)
  have hn0 : ¬ n = 0 := by omega
  have hwm : IntKind.i64.wrap m = m := by rw [IntKind.wrap_i64]; omega
  by_cases hneg : m < 0
  all_goals
    go_enter Try.func36, Try.ntmps36
    go_wp2_with fail
    go_ret
    exact ⟨_, rfl, by omega, by omega, rfl⟩
end Go.Proofs.Ytnhifinfjfpoiaa

namespace Go.Proofs.Ytnhifinfjfpoiaa
open Go.RowKit
set_option linter.unusedVariables false
set_option linter.unusedSimpArgs false

/-- Block b: n numbers, and perhaps more. -/
def IntBlk (w : World) (b n : Nat) (f : Nat → Int) : Prop :=
  ∃ A : Array Value, w.heap[b]? = some (.cells A 3 (0, 0)) ∧ n ≤ A.size ∧ ∀ j, j < n → A[j]? = some (.int .i64 (f j))
theorem IntBlk.cell {w : World} {b n : Nat} {f : Nat → Int} (h : IntBlk w b n f) {j : Nat} (hj : j < n) : w.cell? ⟨b, j, none⟩ = some (.int .i64 (f j)) := by
  obtain ⟨A, h1, h2, h3⟩ := h
  exact (cell_of_row w b _ _ _ _ h1).trans (h3 j hj)
theorem IntBlk.free {w : World} {b n : Nat} {f : Nat → Int} (h : IntBlk w b n f) (j : Nat) : w.frozen? ⟨b, j, none⟩ = false := by
  obtain ⟨A, h1, _, _⟩ := h
  exact frozen_of_row w b _ _ _ h1
theorem IntBlk.lt {w : World} {b n : Nat} {f : Nat → Int} (h : IntBlk w b n f) : b < w.heap.size := by
  obtain ⟨A, h1, _, _⟩ := h
  exact (Array.getElem?_eq_some_iff.1 h1).1
theorem IntBlk.same {w : World} {b n : Nat} {f f' : Nat → Int} (h : IntBlk w b n f) (e : ∀ j, j < n → f j = f' j) : IntBlk w b n f' := by
  obtain ⟨A, h1, h2, h3⟩ := h
  exact ⟨A, h1, h2, fun j hj => by rw [← e j hj]; exact h3 j hj⟩
theorem IntBlk.eq {w w' : World} {b n : Nat} {f : Nat → Int} (h : IntBlk w b n f) (e : w'.heap[b]? = w.heap[b]?) : IntBlk w' b n f := by
  obtain ⟨A, h1, h2⟩ := h
  exact ⟨A, e.trans h1, h2⟩
theorem IntBlk.set {w : World} {b n : Nat} {f : Nat → Int} (h : IntBlk w b n f) {k : Nat} (x : Int) (hk : k < n) : IntBlk (w.setCell ⟨b, k, none⟩ (.int .i64 x)) b n (fun j => if j = k then x else f j) := by
  obtain ⟨A, h1, h2, h3⟩ := h
  refine ⟨A.setIfInBounds k (.int .i64 x), heap_setCell_same w b _ _ _ _ h1, by simp [h2], fun j hj => ?_⟩
  rw [Array.getElem?_setIfInBounds]
  by_cases e : j = k
  · subst e; simp; omega
  · rw [if_neg (fun h => e h.symm)]
    show A[j]? = some (.int .i64 (if j = k then x else f j))
    rw [if_neg e]; exact h3 j hj
theorem IntBlk.cell_ne {w : World} {b n p : Nat} {f : Nat → Int} (h : IntBlk w b n f) {cs : Array Value} {t : TypeId} (hp : w.heap[p]? = some (.cells cs t (0, 0))) (ht : t ≠ 3) : b ≠ p := by
  rintro rfl
  obtain ⟨A, h1, _⟩ := h
  rw [h1] at hp
  cases hp
  exact ht rfl

/-- A matrix: block g heads n rows, each in a block of its own. -/
structure MatAt (w : World) (g n : Nat) (nb : Nat → Nat) (M : Nat → Nat → Int) : Prop where
  head : ∃ A : Array Value, w.heap[g]? = some (.cells A 22 (0, 0)) ∧ n ≤ A.size ∧ ∀ j, j < n → ∃ c, n ≤ c ∧ A[j]? = some (.slice (some ⟨nb j, 0, none⟩) n c)
  row : ∀ j, j < n → IntBlk w (nb j) n (M j)
  inj : ∀ i j, i < n → j < n → nb i = nb j → i = j
theorem MatAt.cell {w : World} {g n : Nat} {nb : Nat → Nat} {M : Nat → Nat → Int} (h : MatAt w g n nb M) {j : Nat} (hj : j < n) : ∃ c, n ≤ c ∧ w.cell? ⟨g, j, none⟩ = some (.slice (some ⟨nb j, 0, none⟩) n c) := by
  obtain ⟨A, h1, _, h3⟩ := h.head
  obtain ⟨c, hc, he⟩ := h3 j hj
  exact ⟨c, hc, (cell_of_row w g _ _ _ _ h1).trans he⟩
theorem MatAt.glt {w : World} {g n : Nat} {nb : Nat → Nat} {M : Nat → Nat → Int} (h : MatAt w g n nb M) : g < w.heap.size := by
  obtain ⟨A, h1, _⟩ := h.head
  exact (Array.getElem?_eq_some_iff.1 h1).1
theorem MatAt.gne {w : World} {g n : Nat} {nb : Nat → Nat} {M : Nat → Nat → Int} (h : MatAt w g n nb M) {j : Nat} (hj : j < n) : nb j ≠ g := by
  obtain ⟨A, h1, _⟩ := h.head
  exact (h.row j hj).cell_ne h1 (by decide)
theorem MatAt.eq {w w' : World} {g n : Nat} {nb : Nat → Nat} {M : Nat → Nat → Int} (h : MatAt w g n nb M) (e : w'.heap[g]? = w.heap[g]?) (e2 : ∀ j, j < n → w'.heap[nb j]? = w.heap[nb j]?) : MatAt w' g n nb M := by
  obtain ⟨A, h1, h2⟩ := h.head
  exact ⟨⟨A, e.trans h1, h2⟩, fun j hj => (h.row j hj).eq (e2 j hj), h.inj⟩
theorem MatAt.below {w w' : World} {g n : Nat} {nb : Nat → Nat} {M : Nat → Nat → Int} (h : MatAt w g n nb M) (hb : Below w.heap.size w w') : MatAt w' g n nb M :=
  h.eq (hb.block g h.glt) fun j hj => hb.block _ (h.row j hj).lt
theorem MatAt.turned {w w' : World} {p g n : Nat} {nb : Nat → Nat} {M : Nat → Nat → Int} (h : MatAt w g n nb M) (ht : Turned p w w') (hg : g ≠ p) (hr : ∀ j, j < n → nb j ≠ p) : MatAt w' g n nb M :=
  h.eq (ht.block g h.glt hg) fun j hj => ht.block _ (h.row j hj).lt (hr j hj)
theorem MatAt.same {w : World} {g n : Nat} {nb : Nat → Nat} {M M' : Nat → Nat → Int} (h : MatAt w g n nb M) (e : ∀ i j, i < n → j < n → M i j = M' i j) : MatAt w g n nb M' :=
  ⟨h.head, fun j hj => (h.row j hj).same fun i hi => e j i hj hi, h.inj⟩
def setM (M : Nat → Nat → Int) (i j : Nat) (x : Int) : Nat → Nat → Int := fun a b => if a = i ∧ b = j then x else M a b
theorem MatAt.set {w : World} {g n : Nat} {nb : Nat → Nat} {M : Nat → Nat → Int} (h : MatAt w g n nb M) {i j : Nat} (x : Int) (hi : i < n) (hj : j < n) : MatAt (w.setCell ⟨nb i, j, none⟩ (.int .i64 x)) g n nb (setM M i j x) := by
  have hg := h.gne hi
  obtain ⟨A, h1, h2⟩ := h.head
  refine ⟨⟨A, (Below.heap_setCell _ _ _ _ hg.symm).trans h1, h2⟩, fun a ha => ?_, h.inj⟩
  by_cases e : a = i
  · subst e
    exact ((h.row a ha).set x hj).same fun b hb => by simp [setM]
  · have hne : nb a ≠ nb i := fun h' => e (h.inj a i ha hi h')
    exact ((h.row a ha).eq (Below.heap_setCell _ _ _ _ hne)).same fun b hb => by simp [setM, e]
/-- Another matrix, or any block, that has no block with it in common. -/
theorem MatAt.other {w : World} {g n k o : Nat} {nb : Nat → Nat} {M : Nat → Nat → Int} {x : Value} (h : MatAt w g n nb M) (hg : g ≠ k) (hr : ∀ j, j < n → nb j ≠ k) : MatAt (w.setCell ⟨k, o, none⟩ x) g n nb M :=
  h.eq (Below.heap_setCell _ _ _ _ hg) fun j hj => Below.heap_setCell _ _ _ _ (hr j hj)

def sumT (f : Nat → Int) : Nat → Int
  | 0 => 0
  | n + 1 => sumT f n + f n
set_option maxRecDepth 100000 in
set_option maxHeartbeats 1000000 in
/-- The sum of a row. -/
theorem total_any (b n c : Nat) (f : Nat → Int) (w : World) (h : IntBlk w b n f) (hn : n ≤ 10) (hf : ∀ j, j < n → -1000 ≤ f j ∧ f j ≤ 1000) :
    Calls Try.prog 48 #[.slice (some ⟨b, 0, none⟩) n c] w fun e w' => e = .returned (.int .i64 (sumT f n)) ∧ w = w' := by
  have H := Lib.hid h
  have HF := Lib.hid hf
  clear h hf
  have hs : ∀ k, k ≤ n → -1000 * (k : Int) ≤ sumT f k ∧ sumT f k ≤ 1000 * (k : Int) := by
    intro k
    induction k with
    | zero => intro _; simp [sumT]
    | succ k ih =>
      intro hk
      have h1 := ih (by omega)
      have h2 := HF.out k (by omega)
      unfold sumT
      omega
  have HS := Lib.hid hs
  clear hs
  go_enter Try.func48, Try.ntmps48
  go_wp2_with fail
  go_loopw [3, 8] (fun v i wr => ∃ k : Nat, k ≤ n ∧ i = .int .i64 k ∧ v = .int .i64 (sumT f k) ∧ w = wr) (fun _ i _ => n - (intOf i).toNat)
  case atStart => exact ⟨0, Nat.zero_le _, rfl, rfl, rfl⟩
  case round =>
    obtain ⟨k, hk, rfl, rfl, rfl⟩ := hrel
    have hs := HS.out k hk
    by_cases hlt : k < n
    · have hki : (k : Int) < n := by omega
      have hc := H.out.cell hlt
      have hx := HF.out k hlt
      go_wp2_with fail
      go_roundw
      case rel => exact ⟨k + 1, by omega, by go_num, by rw [sumT], by simp⟩
      case measure => simp [intOf]; omega
    · obtain rfl : k = n := by omega
      go_wp2_with fail
      go_ret
      exact ⟨rfl, rfl⟩
end Go.Proofs.Ytnhifinfjfpoiaa

namespace Go.Proofs.Ytnhifinfjfpoiaa
open Go.RowKit
set_option linter.unusedVariables false
set_option linter.unusedSimpArgs false

theorem IntBlk.of_owns {w : World} {B g n q : Nat} {l : List Int} {f : Nat → Int} (h : w.ownsRow B 3 1 (.slice (some ⟨g, 0, none⟩) n q) n (intsV l)) (hl : l.length = n) (hf : ∀ j, j < n → nth l j = f j) : IntBlk w g n f := by
  obtain ⟨_, h | ⟨g', cap, cur, e, _, hg, hn, hm, hs, ht⟩⟩ := h
  · cases h.1
  · cases e
    refine ⟨cur, hg, by omega, fun j hj => ?_⟩
    rw [Nat.mul_one] at ht
    have h1 : (List.take n cur.toList)[j]? = (intsV l)[j]? := by rw [ht]
    rw [List.getElem?_take, if_pos hj, Array.getElem?_toList] at h1
    rw [h1, ← hf j hj]
    simp [intsV, nth, hl, hj]
theorem IntBlk.ints {w : World} {b n c : Nat} {f : Nat → Int} (h : IntBlk w b n f) (hc : n ≤ c) (hn : n ≤ 100) (hf : ∀ j, j < n → I64 (f j)) : IsInts w w.heap.size (.slice (some ⟨b, 0, none⟩) n c) ((List.range n).map f) := by
  refine ⟨⟨some ⟨b, 0, none⟩, c, by simp, by simpa using hc, by simp; omega, .inr ⟨b, 0, rfl, h.lt, fun j hj => ?_⟩⟩, fun x hx => ?_⟩
  · have hj' : j < n := by simpa using hj
    rw [Nat.zero_add, h.cell hj']
    simp [nth, hj']
  · obtain ⟨j, hj, rfl⟩ := List.mem_map.1 hx
    exact hf j (List.mem_range.1 hj)
theorem owns_cap {w : World} {B e sz n q : Nat} {a : Option Addr} {xs : List Value} (h : w.ownsRow B e sz (.slice a n q) n xs) : n ≤ q := by
  rcases h.2 with ⟨hc, h0⟩ | ⟨g, cap, cur, hc, _, _, hn, _⟩
  · omega
  · cases hc; exact hn
/-- A row copied: a new block. -/
def CopyPost (n : Nat) (f : Nat → Int) (w : World) (e : Ending) (w' : World) : Prop :=
  ∃ g q, e = .returned (.slice (some ⟨g, 0, none⟩) n q) ∧ n ≤ q ∧ IntBlk w' g n f ∧ w.heap.size ≤ g ∧ Below w.heap.size w w'
theorem copyBlk_any (b n c : Nat) (f : Nat → Int) (w : World) (h : IntBlk w b n f) (hc : n ≤ c) (h0 : 0 < n) (hn : n ≤ 100) (hf : ∀ j, j < n → I64 (f j)) :
    Calls Try.prog 44 #[.slice (some ⟨b, 0, none⟩) n c] w (CopyPost n f w) :=
  (copyI_any ((List.range n).map f) _ w (h.ints hc hn hf) (by simpa using hn)).mono fun e w' ⟨v, h1, h2, h3⟩ => by
    simp only [List.length_map, List.length_range] at h2
    have h2' := h2
    rcases h2.2 with ⟨hv, h4⟩ | ⟨g, q, cur, rfl, hg, _, hnq, hm, _⟩
    · omega
    · exact ⟨g, q, h1, hnq, IntBlk.of_owns h2' (by simp) (fun j hj => by simp [nth, hj]), hg, h3⟩
def rowsV (nb cb : Nat → Nat) (n k : Nat) : List Value := (List.range k).map fun j => .slice (some ⟨nb j, 0, none⟩) n (cb j)
/-- So many rows are copied. -/
def CopyInv (w : World) (n : Nat) (M : Nat → Nat → Int) (k : Nat) (o : Value) (wr : World) : Prop :=
  ∃ nb cb : Nat → Nat, wr.ownsRow w.heap.size 22 1 o k (rowsV nb cb n k) ∧ (∀ j, j < k → n ≤ cb j ∧ w.heap.size ≤ nb j ∧ IntBlk wr (nb j) n (M j)) ∧ (∀ i j, i < k → j < k → nb i = nb j → i = j) ∧ Below w.heap.size w wr
def MatPost (n : Nat) (M : Nat → Nat → Int) (w : World) (e : Ending) (w' : World) : Prop :=
  ∃ g q nb, e = .returned (.slice (some ⟨g, 0, none⟩) n q) ∧ n ≤ q ∧ MatAt w' g n nb M ∧ w.heap.size ≤ g ∧ (∀ j, j < n → w.heap.size ≤ nb j) ∧ Below w.heap.size w w'
theorem copyInv_done {w wr : World} {n : Nat} {M : Nat → Nat → Int} {o : Value} (h : CopyInv w n M n o wr) (h0 : 0 < n) : MatPost n M w (.returned o) wr := by
  obtain ⟨nb, cb, h1, h2, h3, h4⟩ := h
  have h1' := h1
  rcases h1.2 with ⟨_, h5⟩ | ⟨g, q, cur, rfl, hg, hh, hnq, hm, hs, ht⟩
  · omega
  · refine ⟨g, q, nb, rfl, hnq, ⟨⟨cur, hh, by omega, fun j hj => ⟨cb j, (h2 j hj).1, ?_⟩⟩, fun j hj => (h2 j hj).2.2, h3⟩, hg, fun j hj => (h2 j hj).2.1, h4⟩
    rw [Nat.mul_one] at ht
    have h6 : (List.take n cur.toList)[j]? = (rowsV nb cb n n)[j]? := by rw [ht]
    rw [List.getElem?_take, if_pos hj, Array.getElem?_toList] at h6
    rw [h6]; simp [rowsV, hj]
/-- One row more. -/
theorem copyInv_step {w wr w1 w2 : World} {n k gn cn : Nat} {M : Nat → Nat → Int} {o v' : Value} {nb cb : Nat → Nat} (h1 : wr.ownsRow w.heap.size 22 1 o k (rowsV nb cb n k)) (h2 : ∀ j, j < k → n ≤ cb j ∧ w.heap.size ≤ nb j ∧ IntBlk wr (nb j) n (M j)) (h3 : ∀ i j, i < k → j < k → nb i = nb j → i = j) (h4 : Below w.heap.size w wr) (hb1 : Below wr.heap.size wr w1) (hn : n ≤ cn) (hi : IntBlk w1 gn n (M k)) (hgn : wr.heap.size ≤ gn)
    (hown : w2.ownsRow w.heap.size 22 1 v' (k + 1) (rowsV nb cb n k ++ [.slice (some ⟨gn, 0, none⟩) n cn]))
    (hgr : (w1.alloc (.cells #[.slice (some ⟨gn, 0, none⟩) n cn] 22)).grownBy w2 o.ownBlock) : CopyInv w n M (k + 1) v' w2 := by
  have hsz := h4.size
  have o1 := owns_below h1 hb1
  have oA := o1.alloc (.cells #[.slice (some ⟨gn, 0, none⟩) n cn] 22)
  have hbA : Below w1.heap.size w1 (w1.alloc (.cells #[.slice (some ⟨gn, 0, none⟩) n cn] 22)) := (Below.refl _ _).alloc (Nat.le_refl _) _
  have keep2 : ∀ {b : Nat} {f : Nat → Int}, IntBlk w1 b n f → IntBlk w2 b n f := fun {b f} hB => by
    obtain ⟨A, e1, e2, e3⟩ := hB
    have hlt := (Array.getElem?_eq_some_iff.1 e1).1
    have eA := (hbA.block b hlt).trans e1
    exact ⟨A, (hgr.block b (by simp; omega) (not_own oA eA (by decide))).trans eA, e2, e3⟩
  have hlt : ∀ j, j < k → nb j < wr.heap.size := fun j hj => (h2 j hj).2.2.lt
  refine ⟨fun j => if j = k then gn else nb j, fun j => if j = k then cn else cb j, ?_, fun j hj => ?_, fun i j hi hj e => ?_, ?_⟩
  · have e : rowsV (fun j => if j = k then gn else nb j) (fun j => if j = k then cn else cb j) n (k + 1) = rowsV nb cb n k ++ [.slice (some ⟨gn, 0, none⟩) n cn] := by
      unfold rowsV
      rw [List.range_succ, List.map_append]
      congr 1
      · refine List.map_congr_left fun j hj => ?_
        have : j ≠ k := by have := List.mem_range.1 hj; omega
        simp [this]
      · simp
    rw [e]; exact hown
  · by_cases e : j = k
    · subst e
      simp only [if_true]
      exact ⟨hn, by omega, keep2 hi⟩
    · have hjk : j < k := by omega
      simp only [if_neg e]
      obtain ⟨a1, a3, a4⟩ := h2 j hjk
      exact ⟨a1, a3, keep2 (a4.eq (hb1.block _ a4.lt))⟩
  · by_cases ei : i = k <;> by_cases ej : j = k
    · omega
    · simp only [if_pos ei, if_neg ej] at e
      have := hlt j (by omega); omega
    · simp only [if_neg ei, if_pos ej] at e
      have := hlt i (by omega); omega
    · simp only [if_neg ei, if_neg ej] at e
      exact h3 i j (by omega) (by omega) e
  · exact below_grown ((h4.trans (hb1.mono hsz)).alloc (by have := hb1.size; omega) _) hgr (fun r hr => (o1.lt r hr).1) (by simp; have := hb1.size; omega)

set_option maxRecDepth 100000 in
set_option maxHeartbeats 2000000 in
theorem copyMat_any (g n q : Nat) (nb : Nat → Nat) (M : Nat → Nat → Int) (w : World) (h : MatAt w g n nb M) (hq : n ≤ q) (h0 : 0 < n) (hn : n ≤ 6) (hM : ∀ i j, i < n → j < n → I64 (M i j)) :
    Calls Try.prog 65 #[.slice (some ⟨g, 0, none⟩) n q] w (MatPost n M w) := by
  obtain ⟨i0, hi, hz0, hz1, hz2⟩ := info_parts infoRow
  have H := Lib.hid h
  have HM := Lib.hid hM
  clear h hM
  go_enter Try.func65, Try.ntmps65
  go_wp2_with fail
  go_loopw [3, 8] (fun o i wr => ∃ k : Nat, k ≤ n ∧ i = .int .i64 k ∧ Hid (CopyInv w n M k o wr)) (fun _ i _ => n - (intOf i).toNat)
  case atStart => exact ⟨0, Nat.zero_le _, rfl, fun _ => 0, fun _ => 0, World.ownsRow_nil _ _ _ _, fun j hj => (by omega), fun i j hi => (by omega), Below.refl _ _⟩
  case round =>
    obtain ⟨k, hk, rfl, HR⟩ := hrel
    by_cases hlt : k < n
    · have hki : (k : Int) < n := by omega
      obtain ⟨nb0, cb0, hown0, hr2, hr3, hbw⟩ := HR.out
      have HRR := Lib.hid (And.intro hr2 (And.intro hr3 hbw))
      have hM' := H.out.below hbw
      obtain ⟨c, hc1, m1⟩ := hM'.cell hlt
      have HCP := Lib.hid (copyBlk_any (nb k) n c (M k) wr (hM'.row k hlt) hc1 h0 (by omega) (fun j hj => HM.out k j hlt hj))
      obtain ⟨a, cap, rfl⟩ := owns_slice hown0
      have HOW := Lib.hid hown0
      have hsz := hbw.size
      clear hbw hM' hown0 hr2 hr3
      go_wp2_with fail
      refine HCP.out.mono ?_
      rintro e w1 ⟨gn, cn, rfl, hcn1, hI, hgn, hb1⟩
      have HO := Lib.hid ((owns_below HOW.out hb1).alloc (.cells #[.slice (some ⟨gn, 0, none⟩) n cn] 22))
      have hsz1 := hb1.size
      have HX := Lib.hid (And.intro hI (And.intro hgn hb1))
      clear hI hgn hb1 HCP m1
      go_wp2_with (at_builtin; refine wpList_append_own _ rfl _ _ 24 rfl w.heap.size 22 i0 (.slice none 0 0) 1 24 Try.underlying24 hi hz0 hz1 hz2 rfl (by decide) _ _ _ rfl HO.out ⟨w1.heap.size, 0, none⟩ 1 1 [.slice (some ⟨gn, 0, none⟩) n cn] rfl rfl (cell_one_new _ _ _) (fun y hy => by simp at hy; subst hy; rfl) (by unfold maxLen; omega) (by omega) (by simp; omega) ?_; intro v' w2 hown' hgrow _; have HG := Lib.hid (And.intro hown' hgrow); clear hown' hgrow)
      have HN : Hid (CopyInv w n M (k + 1) v' w2) := copyInv_step HOW.out HRR.out.1 HRR.out.2.1 HRR.out.2.2 HX.out.2.2 hcn1 HX.out.1 HX.out.2.1 HG.out.1 HG.out.2
      clear HO HG HX
      go_wp2_with fail
      go_roundw
      case rel => exact ⟨k + 1, by omega, by go_num, HN.out⟩
      case measure => simp [intOf]; omega
    · obtain rfl : k = n := by omega
      go_wp2_with fail
      go_ret
      exact copyInv_done HR.out h0
end Go.Proofs.Ytnhifinfjfpoiaa

namespace Go.Proofs.Ytnhifinfjfpoiaa
open Go.RowKit
set_option linter.unusedVariables false

/-- Runs of which a colony may have: between two different houses of n. -/
def RunsIn (n : Nat) (rs : List (Int × Int)) : Prop := ∀ i, i < rs.length → 0 ≤ (nthP rs i).1 ∧ (nthP rs i).1 < n ∧ 0 ≤ (nthP rs i).2 ∧ (nthP rs i).2 < n ∧ (nthP rs i).1 ≠ (nthP rs i).2
/-- Two houses that a run joins. -/
def Joined (rs : List (Int × Int)) (a b : Nat) : Prop := ∃ i, i < rs.length ∧ ((nthP rs i = ((a : Int), (b : Int))) ∨ (nthP rs i = ((b : Int), (a : Int))))
theorem Joined.symm {rs : List (Int × Int)} {a b : Nat} (h : Joined rs a b) : Joined rs b a := let ⟨i, h1, h2⟩ := h; ⟨i, h1, h2.symm⟩
/-- M: who was where in the morning; N: who did not run yet; X: who is where now. -/
structure RunInv (n : Nat) (rs : List (Int × Int)) (M N X : Nat → Nat → Int) : Prop where
  now0 : ∀ h f, h < n → f < n → 0 ≤ N h f ∧ N h f ≤ M h f
  next : ∀ h f, h < n → f < n → N h f ≤ X h f
  from_ : ∀ h f, h < n → f < n → 0 < X h f → ∃ o, o < n ∧ (o = h ∨ Joined rs o h) ∧ 0 < M o f
  sum : ∀ f, f < n → sumN (fun h => X h f) n = sumN (fun h => M h f) n
theorem RunInv.start {n : Nat} {rs : List (Int × Int)} {M : Nat → Nat → Int} (hM : ∀ h f, h < n → f < n → 0 ≤ M h f) : RunInv n rs M M M :=
  ⟨fun h f hh hf => ⟨hM h f hh hf, Int.le_refl _⟩, fun _ _ _ _ => Int.le_refl _, fun h f hh hf hp => ⟨h, hh, .inl rfl, hp⟩, fun _ _ => rfl⟩
theorem sumN_setM {X : Nat → Nat → Int} {n a f : Nat} (ha : a < n) (v : Int) (e : Nat) : sumN (fun h => setM X a f v h e) n = if e = f then sumN (fun h => X h e) n - X a e + v else sumN (fun h => X h e) n := by
  by_cases he : e = f
  · subst he
    rw [if_pos rfl]
    have := sumN_set (fun h => X h e) a v n
    rw [if_pos ha] at this
    rw [← this]
    exact sumN_congr fun i hi => by simp [setM]
  · rw [if_neg he]
    exact sumN_congr fun i hi => by simp [setM, he]
theorem setM_same (M : Nat → Nat → Int) (i j : Nat) (x : Int) : setM M i j x i j = x := by simp [setM]
theorem setM_ne {M : Nat → Nat → Int} {i j a b : Nat} {x : Int} (h : ¬ (a = i ∧ b = j)) : setM M i j x a b = M a b := by unfold setM; rw [if_neg h]
/-- x rats that came from f go from a to b, y from b to a. -/
theorem RunInv.step {n : Nat} {rs : List (Int × Int)} {M N X : Nat → Nat → Int} (I : RunInv n rs M N X) {a b f : Nat} (ha : a < n) (hb : b < n) (hf : f < n) (hab : a ≠ b) (hj : Joined rs a b) {x y : Int} (hx0 : 0 ≤ x) (hx : x ≤ N a f) (hy0 : 0 ≤ y) (hy : y ≤ N b f) :
    RunInv n rs M (setM (setM N a f (N a f - x)) b f (N b f - y)) (setM (setM X a f (X a f + (y - x))) b f (X b f + (x - y))) := by
  have ea : ∀ (Z : Nat → Nat → Int) (u v : Int), setM (setM Z a f u) b f v a f = u := fun Z u v => by rw [setM_ne (fun h => hab h.1), setM_same]
  have eb : ∀ (Z : Nat → Nat → Int) (u v : Int), setM (setM Z a f u) b f v b f = v := fun Z u v => setM_same _ _ _ _
  have eo : ∀ (Z : Nat → Nat → Int) (u v : Int) (h g : Nat), ¬ (h = a ∧ g = f) → ¬ (h = b ∧ g = f) → setM (setM Z a f u) b f v h g = Z h g := fun Z u v h g h1 h2 => by rw [setM_ne h2, setM_ne h1]
  refine ⟨fun h g hh hg => ?_, fun h g hh hg => ?_, fun h g hh hg hp => ?_, fun g hg => ?_⟩
  · have h1 := I.now0 h g hh hg
    by_cases c1 : h = a ∧ g = f
    · obtain ⟨rfl, rfl⟩ := c1; rw [ea]; omega
    · by_cases c2 : h = b ∧ g = f
      · obtain ⟨rfl, rfl⟩ := c2; rw [eb]; omega
      · rw [eo _ _ _ _ _ c1 c2]; exact h1
  · have h1 := I.next h g hh hg
    by_cases c1 : h = a ∧ g = f
    · obtain ⟨rfl, rfl⟩ := c1; rw [ea, ea]; omega
    · by_cases c2 : h = b ∧ g = f
      · obtain ⟨rfl, rfl⟩ := c2; rw [eb, eb]; omega
      · rw [eo _ _ _ _ _ c1 c2, eo _ _ _ _ _ c1 c2]; exact h1
  · by_cases c1 : h = a ∧ g = f
    · obtain ⟨rfl, rfl⟩ := c1
      rw [ea] at hp
      by_cases c : 0 < X h g
      · exact I.from_ h g hh hg c
      · have h1 := I.next h g hh hg
        have h2 := I.now0 b g hb hg
        have h3 := I.now0 h g hh hg
        exact ⟨b, hb, .inr hj.symm, by omega⟩
    · by_cases c2 : h = b ∧ g = f
      · obtain ⟨rfl, rfl⟩ := c2
        rw [eb] at hp
        by_cases c : 0 < X h g
        · exact I.from_ h g hh hg c
        · have h1 := I.next h g hh hg
          have h2 := I.now0 a g ha hg
          have h3 := I.now0 h g hh hg
          exact ⟨a, ha, .inr hj, by omega⟩
      · rw [eo _ _ _ _ _ c1 c2] at hp; exact I.from_ h g hh hg hp
  · rw [sumN_setM hb, sumN_setM ha]
    have h1 := I.sum g hg
    by_cases c : g = f
    · subst c
      rw [if_pos rfl, if_pos rfl, setM_ne (fun h => hab h.1.symm)]
      omega
    · rw [if_neg c, if_neg c]; exact h1
theorem RunInv.bound {n : Nat} {rs : List (Int × Int)} {M N X : Nat → Nat → Int} (I : RunInv n rs M N X) (hM : ∀ h f, h < n → f < n → M h f ≤ 100) (hn : n ≤ 6) {h f : Nat} (hh : h < n) (hf : f < n) : 0 ≤ X h f ∧ X h f ≤ 600 := by
  have h1 := I.next h f hh hf
  have h2 := I.now0 h f hh hf
  have h3 := I.sum f hf
  have h4 := sumN_ge (f := fun h => X h f) (n := n) (k := h) (fun i hi => by have a := I.next i f hi hf; have b := I.now0 i f hi hf; omega) hh
  have h5 := sumN_bound (f := fun h => M h f) (n := n) (b := 100) (fun i hi => hM i f hi hf)
  omega
/-- What is told of those that ran. -/
structure RunOk (n : Nat) (rs : List (Int × Int)) (M X : Nat → Nat → Int) : Prop where
  pos : ∀ h f, h < n → f < n → 0 ≤ X h f
  from_ : ∀ h f, h < n → f < n → 0 < X h f → ∃ o, o < n ∧ (o = h ∨ Joined rs o h) ∧ 0 < M o f
  sum : ∀ f, f < n → sumN (fun h => X h f) n = sumN (fun h => M h f) n
theorem RunInv.ok {n : Nat} {rs : List (Int × Int)} {M N X : Nat → Nat → Int} (I : RunInv n rs M N X) : RunOk n rs M X :=
  ⟨fun h f hh hf => by have a := I.next h f hh hf; have b := I.now0 h f hh hf; omega, I.from_, I.sum⟩

/-- Nothing that stood has turned, but the chute's block and the rows of a matrix. -/
structure RunFrame (w : World) (p n : Nat) (nb : Nat → Nat) (w' : World) : Prop where
  os : w'.os = w.os
  tape : w'.tape = w.tape
  output : w'.output = w.output
  size : w.heap.size ≤ w'.heap.size
  block : ∀ k, k < w.heap.size → k ≠ p → (∀ j, j < n → k ≠ nb j) → w'.heap[k]? = w.heap[k]?
theorem RunFrame.refl (w : World) (p n : Nat) (nb : Nat → Nat) : RunFrame w p n nb w := ⟨rfl, rfl, rfl, Nat.le_refl _, fun _ _ _ _ => rfl⟩
theorem RunFrame.below {w w' w'' : World} {p n B : Nat} {nb : Nat → Nat} (h : RunFrame w p n nb w') (hb : Below B w' w'') (hB : w.heap.size ≤ B) : RunFrame w p n nb w'' :=
  ⟨hb.os.trans h.os, hb.tape.trans h.tape, hb.output.trans h.output, Nat.le_trans h.size hb.size, fun k hk h1 h2 => (hb.block k (Nat.lt_of_lt_of_le hk hB)).trans (h.block k hk h1 h2)⟩
theorem RunFrame.turned {w w' w'' : World} {p n : Nat} {nb : Nat → Nat} (h : RunFrame w p n nb w') (ht : Turned p w' w'') : RunFrame w p n nb w'' :=
  ⟨ht.os.trans h.os, ht.tape.trans h.tape, ht.output.trans h.output, Nat.le_trans h.size ht.size, fun k hk h1 h2 => (ht.block k (Nat.lt_of_lt_of_le hk h.size) h1).trans (h.block k hk h1 h2)⟩
theorem RunFrame.set {w w' : World} {p n j o : Nat} {nb : Nat → Nat} {x : Value} (h : RunFrame w p n nb w') (hj : j < n) : RunFrame w p n nb (w'.setCell ⟨nb j, o, none⟩ x) :=
  ⟨h.os, h.tape, h.output, by simpa using h.size, fun k hk h1 h2 => (Below.heap_setCell _ _ _ _ (h2 j hj)).trans (h.block k hk h1 h2)⟩
theorem RunFrame.fresh {w w' : World} {p n b o : Nat} {nb : Nat → Nat} {x : Value} (h : RunFrame w p n nb w') (hb : w.heap.size ≤ b) : RunFrame w p n nb (w'.setCell ⟨b, o, none⟩ x) :=
  ⟨h.os, h.tape, h.output, by simpa using h.size, fun k hk h1 h2 => (Below.heap_setCell _ _ _ _ (show k ≠ b by omega)).trans (h.block k hk h1 h2)⟩
end Go.Proofs.Ytnhifinfjfpoiaa

namespace Go.Proofs.Ytnhifinfjfpoiaa
open Go.RowKit
set_option linter.unusedVariables false

section
variable {P : Program} {ops : Array Oper} {Q : Exit → Act → World → Prop} {md : Region.Mode} {S : World → Prop}
/-- An operation that is wanted, taken first; its slot is named. -/
theorem takeH {i d : Nat} {oi : Oper} {v : Value} {fuel : Nat} {listed : Array Bool} {a : Act} {w : World} (hi : ops[i]? = some oi) (hd : oi.dst = some d)
    (hs : Region.noSelect ops = true) (hf : Region.free md ops listed i = true) (hr : (Region.ready md ops listed).contains i = true)
    (hQ : ∀ c d' v' a w, Q (.panic c) (a.put d' v') w → Q (.panic c) a w) (hw : Region.wanted oi (yielded ops a.tmps) = true) (hv : ∀ w, S w → (execOp a.eval oi).run P w = .ok (.value v) w) (hS : S w)
    (h : wpAnyH P md ops Q S fuel (listed.setIfInBounds i true) (a.put (some d) v) w) : wpAnyH P md ops Q S (fuel + 1) listed a w :=
  wpAnyH_take hi hs hf hr (fun c a w => hQ c _ _ a w) (.inl ⟨hw, hv⟩) hS (by rw [hd]; exact h)
/-- An operation that its guard leaves out. -/
theorem skipH {i d : Nat} {oi : Oper} {fuel : Nat} {listed : Array Bool} {a : Act} {w : World} (hi : ops[i]? = some oi) (hd : oi.dst = some d)
    (hs : Region.noSelect ops = true) (hf : Region.free md ops listed i = true) (hr : (Region.ready md ops listed).contains i = true)
    (hQ : ∀ c d' v' a w, Q (.panic c) (a.put d' v') w → Q (.panic c) a w) (hw : Region.wanted oi (yielded ops a.tmps) = false) (hS : S w)
    (h : wpAnyH P md ops Q S fuel (listed.setIfInBounds i true) (a.put (some d) undef) w) : wpAnyH P md ops Q S (fuel + 1) listed a w :=
  wpAnyH_take hi hs hf hr (fun c a w => hQ c _ _ a w) (.inr ⟨hw, rfl⟩) hS (by rw [hd]; exact h)
end
end Go.Proofs.Ytnhifinfjfpoiaa

namespace Go.Proofs.Ytnhifinfjfpoiaa
open Go.RowKit
set_option linter.unusedVariables false

theorem owns_set_ty {W : World} {b e sz n p o t : Nat} {v u : Value} {xs : List Value} {cs : Array Value} (h : W.ownsRow b e sz v n xs) (hp : W.heap[p]? = some (.cells cs t (0, 0))) (hne : t ≠ e) : (W.setCell ⟨p, o, none⟩ u).ownsRow b e sz v n xs := by
  obtain ⟨hl, h | ⟨g, cap, cur, rfl, hb, hc, hr⟩⟩ := h
  · exact ⟨hl, .inl h⟩
  · refine ⟨hl, .inr ⟨g, cap, cur, rfl, hb, (Below.heap_setCell _ _ _ _ ?_).trans hc, hr⟩⟩
    rintro rfl
    rw [hc] at hp
    cases hp
    exact hne rfl
end Go.Proofs.Ytnhifinfjfpoiaa

namespace Go.Proofs.Ytnhifinfjfpoiaa
open Go.RowKit
set_option linter.unusedVariables false

theorem made_intsN (n : Nat) : madeCells (Value.cells (.int .i64 0)) n = (intsV (List.replicate n 0)).toArray := by
  unfold madeCells intsV
  refine Array.ext (by simp) fun i h1 h2 => ?_
  have e : (Value.cells (.int .i64 0)).size = 1 := rfl
  simp [e, Nat.mod_one]
  rfl
theorem make_intsN (n : Nat) (hn : n ≤ 100) (w : World) : (Instr.makeSlice 22 (.int .i64 (n : Int)) (.int .i64 (n : Int))).run Try.prog w = .ok (.slice (some ⟨w.heap.size, 0, none⟩) n n) (w.alloc (.cells (intsV (List.replicate n 0)).toArray 3)) := by
  obtain ⟨i0, hi, hz0, hz1, hz2⟩ := info_parts infoInt
  have hb : (i0.bytes : Int) * (n : Int) ≤ 281474976710656 := by rw [hz2]; omega
  have h := run_make (P := Try.prog) w 22 3 i0 (.int .i64 0) Try.underlying22 hi hz0 .i64 .i64 n n (Int.natCast_nonneg n) (Int.le_refl _) hb (by omega)
  rw [hz1, Int.toNat_natCast, Nat.mul_one, made_intsN] at h
  exact h
end Go.Proofs.Ytnhifinfjfpoiaa

namespace Go.Proofs.Ytnhifinfjfpoiaa
open Go.RowKit
set_option linter.unusedVariables false

theorem rows_read {w : World} {B : Nat} {v : Value} {vs : List Value} {A : List (List Int)} (h1 : w.ownsRow B 22 1 v A.length vs) (h2 : ∀ j, j < A.length → IsInts w w.heap.size (vs.getD j (.slice none 0 0)) (nthR A j)) (hl : A.length ≤ 1000) : IsRows w w.heap.size v A := by
  obtain ⟨hvl, h1⟩ := h1
  refine ⟨fun j => vs.getD j (.slice none 0 0), ?_, h2⟩
  rcases h1 with ⟨rfl, hn⟩ | ⟨g, cap, cur, rfl, hg, hc, hn, hm, hs, ht⟩
  · exact ⟨none, 0, by rw [hn], by omega, by omega, .inl hn⟩
  · refine ⟨some ⟨g, 0, none⟩, cap, rfl, hn, by omega, .inr ⟨g, 0, rfl, (Array.getElem?_eq_some_iff.1 hc).1, fun j hj => ?_⟩⟩
    refine (cell_of_row w g (0 + j) _ _ _ hc).trans ?_
    rw [Nat.mul_one] at ht hj hvl
    have this : j < cur.toList.length := by simp; omega
    have e2 : (List.take A.length cur.toList).getD j (.slice none 0 0) = cur.toList[j]'this := by rw [List.getD_eq_getElem?_getD, List.getElem?_take, if_pos hj, List.getElem?_eq_getElem this]; rfl
    rw [Nat.zero_add, ← Array.getElem?_toList, ← ht]
    show _ = some ((List.take A.length cur.toList).getD j (.slice none 0 0))
    rw [e2, List.getElem?_eq_getElem this]
end Go.Proofs.Ytnhifinfjfpoiaa

namespace Go.Proofs.Ytnhifinfjfpoiaa
open Go.RowKit
set_option linter.unusedVariables false
set_option linter.unusedSimpArgs false

def RunPost (p n : Nat) (v : Value) (xs : List Int) (rs : List (Int × Int)) (nb : Nat → Nat) (M : Nat → Nat → Int) (w : World) (e : Ending) (w' : World) : Prop :=
  ∃ g q nb' M', e = .returned (.slice (some ⟨g, 0, none⟩) n q) ∧ n ≤ q ∧ MatAt w' g n nb' M' ∧ w.heap.size ≤ g ∧ (∀ j, j < n → w.heap.size ≤ nb' j) ∧ ChuteAt w' p v xs ∧ RunFrame w p n nb w' ∧ RunOk n rs M M'
theorem two_at {W : World} {p t : Nat} {a b : Value} (h : W.heap[p]? = some (.cells #[a, b] t (0, 0))) : W.cell? ⟨p, 0, none⟩ = some a ∧ W.cell? ⟨p, 1, none⟩ = some b :=
  ⟨(cell_of_row _ _ 0 _ _ _ h).trans rfl, (cell_of_row _ _ 1 _ _ _ h).trans rfl⟩
theorem ChuteAt.set {w : World} {p k o : Nat} {v x : Value} {xs : List Int} (h : ChuteAt w p v xs) (hk : p < k) : ChuteAt (w.setCell ⟨k, o, none⟩ x) p v xs := by
  obtain ⟨u, s, h1, h2⟩ := h.blk
  have hp := h.lt
  have hb : Below p w (w.setCell ⟨k, o, none⟩ x) := (Below.refl _ _).setCell (p := ⟨k, o, none⟩) (Nat.le_of_lt hk) _
  exact ⟨⟨u, s, (Below.heap_setCell _ _ _ _ (show p ≠ k by omega)).trans h1, h2⟩, h.bytes.1.below hb (Nat.le_refl _), h.bytes.2⟩
theorem ChuteAt.drew {w : World} {p : Nat} {v : Value} {xs : List Int} (h : ChuteAt w p v xs) : ChuteAt w.drew p v xs := h.below (Below.refl _ _).drew
theorem owns_turned {w w' : World} {p b e sz n : Nat} {v vv : Value} {xs : List Value} {ys : List Int} (h : w.ownsRow b e sz v n xs) (hc : ChuteAt w p vv ys) (hne : 144 ≠ e) (ht : Turned p w w') : w'.ownsRow b e sz v n xs := by
  obtain ⟨_, _, h2, _⟩ := hc.blk
  exact h.kept (row := some p) ⟨ht.os, ht.tape, ht.output, ht.size, fun k hk hn => ht.block k hk (fun e => hn (by rw [e]))⟩ (.inr (fun e => (not_own h h2 hne) e.symm))
/-- Between two rounds. -/
def RunSt (p n g g' B b9 : Nat) (v u : Value) (xs : List Int) (rs : List (Int × Int)) (nb nb' : Nat → Nat) (M : Nat → Nat → Int) (w : World) (cs : Array Value) (wq : World) : Prop :=
  ∃ N X, MatAt wq g n nb N ∧ MatAt wq g' n nb' X ∧ RunInv n rs M N X ∧ ChuteAt wq p v xs ∧ RunFrame w p n nb wq ∧ wq.ownsRow B 63 2 u rs.length (pairsV rs) ∧ w.heap.size < wq.heap.size ∧ wq.heap[b9]? = some (.cells cs 63 (0, 0))
theorem RunSt.four {p n g g' B b9 a b f : Nat} {v u : Value} {xs : List Int} {rs : List (Int × Int)} {nb nb' : Nat → Nat} {M N X : Nat → Nat → Int} {w wq : World} {cs : Array Value} {x y na nv xa xb : Int}
    (h1 : MatAt wq g n nb N) (h2 : MatAt wq g' n nb' X) (h3 : RunInv n rs M N X) (h4 : ChuteAt wq p v xs) (h5 : RunFrame w p n nb wq) (h6 : wq.ownsRow B 63 2 u rs.length (pairsV rs)) (h7 : w.heap.size < wq.heap.size) (h8 : wq.heap[b9]? = some (.cells cs 63 (0, 0)))
    (hpn : ∀ j, j < n → p < nb j ∧ nb j < w.heap.size) (hnn : ∀ j, j < n → w.heap.size ≤ nb' j) (hg : g < w.heap.size) (hg' : w.heap.size ≤ g') (ha : a < n) (hb : b < n) (hf : f < n) (hab : a ≠ b) (hj : Joined rs a b) (hx0 : 0 ≤ x) (hx : x ≤ N a f) (hy0 : 0 ≤ y) (hy : y ≤ N b f)
    (e1 : N a f = na) (e2 : N b f = nv) (e3 : X a f = xa) (e4 : X b f = xb) :
    RunSt p n g g' B b9 v u xs rs nb nb' M w cs ((((wq.setCell ⟨nb a, f, none⟩ (.int .i64 (na - x))).setCell ⟨nb b, f, none⟩ (.int .i64 (nv - y))).setCell ⟨nb' a, f, none⟩ (.int .i64 (xa + (y - x)))).setCell ⟨nb' b, f, none⟩ (.int .i64 (xb + (x - y)))) := by
  subst e1; subst e2; subst e3; subst e4
  have pa := hpn a ha; have pb := hpn b hb; have qa := hnn a ha; have qb := hnn b hb
  have i1 := h1.row a ha; have i2 := h1.row b hb; have i3 := h2.row a ha; have i4 := h2.row b hb
  have ty : ∀ {k : Nat} {W : World} {m : Nat} {φ : Nat → Int}, IntBlk W k m φ → ∃ A : Array Value, W.heap[k]? = some (.cells A 3 (0, 0)) := fun h => let ⟨A, e, _⟩ := h; ⟨A, e⟩
  have m1 := h1.set (N a f - x) ha hf
  have m2 := m1.set (N b f - y) hb hf
  have n1 : MatAt (wq.setCell ⟨nb a, f, none⟩ (.int .i64 (N a f - x))) g' n nb' X := h2.other (by omega) (fun j hj => by have := hnn j hj; omega)
  have n2 : MatAt ((wq.setCell ⟨nb a, f, none⟩ (.int .i64 (N a f - x))).setCell ⟨nb b, f, none⟩ (.int .i64 (N b f - y))) g' n nb' X := n1.other (by omega) (fun j hj => by have := hnn j hj; omega)
  have n3 := n2.set (X a f + (y - x)) ha hf
  have n4 := n3.set (X b f + (x - y)) hb hf
  have m3 := m2.other (k := nb' a) (o := f) (x := .int .i64 (X a f + (y - x))) (by omega) (fun j hj => by have := hpn j hj; omega)
  have m4 := m3.other (k := nb' b) (o := f) (x := .int .i64 (X b f + (x - y))) (by omega) (fun j hj => by have := hpn j hj; omega)
  have tyb : ∀ (W : World) (k o : Nat) (z : Value), k ≠ b9 → W.heap[b9]? = some (.cells cs 63 (0, 0)) → (W.setCell ⟨k, o, none⟩ z).heap[b9]? = some (.cells cs 63 (0, 0)) := fun W k o z hk h => (Below.heap_setCell _ _ _ _ hk.symm).trans h
  have ne : ∀ {k : Nat} {W : World} {m : Nat} {φ : Nat → Int}, IntBlk W k m φ → W.heap[b9]? = some (.cells cs 63 (0, 0)) → k ≠ b9 := fun h h' => h.cell_ne h' (by decide)
  obtain ⟨A1, z1⟩ := ty i1
  obtain ⟨A2, z2⟩ := ty (m1.row b hb)
  obtain ⟨A3, z3⟩ := ty (n2.row a ha)
  obtain ⟨A4, z4⟩ := ty (n3.row b hb)
  have k1 := tyb _ _ f (.int .i64 (N a f - x)) (ne i1 h8) h8
  have k2 := tyb _ _ f (.int .i64 (N b f - y)) (ne (m1.row b hb) k1) k1
  have k3 := tyb _ _ f (.int .i64 (X a f + (y - x))) (ne (n2.row a ha) k2) k2
  have k4 := tyb _ _ f (.int .i64 (X b f + (x - y))) (ne (n3.row b hb) k3) k3
  have hpw : p < nb' a ∧ p < nb' b := by omega
  exact ⟨_, _, m4, n4, h3.step ha hb hf hab hj hx0 hx hy0 hy, (((h4.set pa.1).set pb.1).set hpw.1).set hpw.2, (((h5.set ha).set hb).fresh qa).fresh qb,
    owns_set_ty (owns_set_ty (owns_set_ty (owns_set_ty h6 z1 (by decide)) z2 (by decide)) z3 (by decide)) z4 (by decide), by simpa using h7, k4⟩
theorem RunSt.drew {p n g g' B b9 : Nat} {v u : Value} {xs : List Int} {rs : List (Int × Int)} {nb nb' : Nat → Nat} {M : Nat → Nat → Int} {w wq : World} {cs : Array Value} (h : RunSt p n g g' B b9 v u xs rs nb nb' M w cs wq) : RunSt p n g g' B b9 v u xs rs nb nb' M w cs wq.drew := by
  obtain ⟨N, X, h1, h2, h3, h4, h5, h6, h7, h8⟩ := h
  have hb : Below wq.heap.size wq wq.drew := (Below.refl _ _).drew
  exact ⟨N, X, h1.below hb, h2.below hb, h3, h4.below hb, h5.below hb h5.size, owns_below h6 hb, h7, h8⟩
theorem cell_other {W : World} {b o k q : Nat} {z : Value} (hk : b ≠ k) : (W.setCell ⟨k, q, none⟩ z).cell? ⟨b, o, none⟩ = W.cell? ⟨b, o, none⟩ := World.cell?_of_block (Below.heap_setCell _ _ _ _ hk)
theorem blk_other {W : World} {b k o t : Nat} {z : Value} {cs : Array Value} (h : W.heap[b]? = some (.cells cs t (0, 0))) (hk : b ≠ k) : (W.setCell ⟨k, o, none⟩ z).heap[b]? = some (.cells cs t (0, 0)) := (Below.heap_setCell _ _ _ _ hk).trans h
/-- The cells of two rows that a statement reads, and the chute. -/
abbrev RunBox (p : Nat) (v : Value) (xs : List Int) (W0 : World) (b9 g a b f : Nat) (va vb : Value) (ba bb : Nat) (x y : Int) (W : World) : Prop :=
  W.cell? ⟨b9, 0, none⟩ = some (.int .i64 a) ∧ W.cell? ⟨b9, 1, none⟩ = some (.int .i64 b) ∧ W.cell? ⟨g, a, none⟩ = some va ∧ W.cell? ⟨g, b, none⟩ = some vb ∧ W.cell? ⟨ba, f, none⟩ = some (.int .i64 x) ∧ W.cell? ⟨bb, f, none⟩ = some (.int .i64 y) ∧ Hid (ChuteAt W p v xs ∧ Turned p W0 W)

set_option maxRecDepth 100000 in
set_option maxHeartbeats 8000000 in
theorem run_any (p g n q B : Nat) (v : Value) (xs : List Int) (r t u ns : Value) (rs : List (Int × Int)) (nb : Nat → Nat) (M : Nat → Nat → Int) (w : World) (hc : ChuteAt w p v xs) (hm : MatAt w g n nb M) (hq : n ≤ q) (h0 : 0 < n) (hn : n ≤ 6)
    (hM : ∀ i j, i < n → j < n → 0 ≤ M i j ∧ M i j ≤ 100) (hu : w.ownsRow B 63 2 u rs.length (pairsV rs)) (hrs : RunsIn n rs) (hrl : rs.length ≤ 100) (hpn : ∀ j, j < n → p < nb j) :
    Calls Try.prog 106 #[.pointer (some ⟨p, 0, none⟩), .agg #[r, t, u, ns], .slice (some ⟨g, 0, none⟩) n q] w (RunPost p n v xs rs nb M w) := by
  have hBW : Below w.heap.size w (w.alloc (.cells #[r, t, u, ns] 26)) := (Below.refl _ w).alloc (Nat.le_refl _) _
  have hx : (w.alloc (.cells #[r, t, u, ns] 26)).heap[w.heap.size]? = some (.cells #[r, t, u, ns] 26 (0, 0)) := blk _ _ _ _ rfl
  have hgp : g ≠ p := by
    obtain ⟨A, h1, _⟩ := hm.head
    obtain ⟨_, _, h2, _⟩ := hc.blk
    rintro rfl; rw [h1] at h2; cases h2
  have hnp : ∀ j, j < n → nb j ≠ p := fun j hj => by
    obtain ⟨_, _, h2, _⟩ := hc.blk
    exact (hm.row j hj).cell_ne h2 (by decide)
  have hp := hc.lt
  have hnw : ∀ j, j < n → p < nb j ∧ nb j < w.heap.size := fun j hj => ⟨hpn j hj, (hm.row j hj).lt⟩
  have HNW := Lib.hid (And.intro hnw (And.intro hm.glt hp))
  obtain ⟨au, cu, rfl⟩ := owns_slice hu
  have HB := Lib.hid hBW; have HX := Lib.hid hx; have HC := Lib.hid (hc.below hBW); have HM := Lib.hid (hm.below hBW); have HMM := Lib.hid hM; have HU := Lib.hid (owns_below hu hBW); have HRS := Lib.hid hrs; have HNP := Lib.hid (And.intro hgp hnp)
  have HF0 : Hid (RunFrame w p n nb (w.alloc (.cells #[r, t, .slice au rs.length cu, ns] 26))) := (RunFrame.refl _ _ _ _).below hBW (Nat.le_refl _)
  have HCP := Lib.hid (copyMat_any g n q nb M _ HM.out hq h0 hn (fun i j hi hj => by have := hM i j hi hj; unfold I64; omega))
  clear hBW hx hc hm hM hu hrs hgp hnp hnw hpn
  go_enter Try.func106, Try.ntmps106
  go_wp2_with fail
  refine HCP.out.mono ?_
  rintro e w1 ⟨g', q', nb', rfl, hq', hm', hg', hnb', hb1⟩
  have hlt : w.heap.size < w1.heap.size := by have := hb1.size; simp at this; omega
  obtain ⟨x0, x1, x2, x3⟩ := four_at (blk_on HX.out hb1)
  have HM1 := Lib.hid (HM.out.below hb1)
  have H1 := Lib.hid (And.intro hm' (And.intro hg' (And.intro hnb' hb1)))
  have HC1 := Lib.hid (HC.out.below hb1)
  have HU1 := Lib.hid (owns_below HU.out hb1)
  have HF1 := Lib.hid (HF0.out.below hb1 (by simp))
  have HI0 : Hid (RunInv n rs M M M) := RunInv.start fun h f hh hf => (HMM.out h f hh hf).1
  clear hm' hg' hnb' hb1 HCP
  go_wp2_with fail
  go_loopw [18] (fun i wr => ∃ k : Nat, k ≤ rs.length ∧ i = .int .i64 k ∧ Hid (∃ N X, MatAt wr g n nb N ∧ MatAt wr g' n nb' X ∧ RunInv n rs M N X ∧ ChuteAt wr p v xs ∧ RunFrame w p n nb wr ∧ wr.ownsRow B 63 2 (.slice au rs.length cu) rs.length (pairsV rs) ∧ w.heap.size < wr.heap.size)) (fun i _ => rs.length - (intOf i).toNat)
  case atStart => exact ⟨0, Nat.zero_le _, rfl, M, M, HM1.out, H1.out.1, HI0.out, HC1.out, HF1.out, HU1.out, hlt⟩
  case round =>
    obtain ⟨k, hk, rfl, HR⟩ := hrel
    by_cases hlt2 : k < rs.length
    · have hki : (k : Int) < rs.length := by omega
      obtain ⟨N0, X0, s1, s2, s3, s4, s5, s6, s7⟩ := HR.out
      obtain ⟨ra0, ra1, rb0, rb1, rab⟩ := HRS.out k hlt2
      have hI64 : ∀ q ∈ rs, I64 q.1 ∧ I64 q.2 := fun q hq => by
        obtain ⟨i, hi, rfl⟩ := List.mem_iff_getElem.1 hq
        have := HRS.out i hi
        rw [nthP_eq hi] at this
        unfold I64; omega
      obtain ⟨au', cu', eu, _, _, hcell⟩ := (pairs_of_owns s6 hI64 (by omega)).open
      cases eu
      obtain ⟨bu, offu, rfl, hbu, m1, m2⟩ := hcell k hlt2
      obtain ⟨a, ha⟩ : ∃ a : Nat, (nthP rs k).1 = a := ⟨(nthP rs k).1.toNat, by omega⟩
      obtain ⟨b, hb⟩ : ∃ b : Nat, (nthP rs k).2 = b := ⟨(nthP rs k).2.toNat, by omega⟩
      rw [ha] at m1 ra1 rab
      rw [hb] at m2 rb1 rab
      have hjn : Joined rs a b := ⟨k, hlt2, .inl (by rw [← ha, ← hb])⟩
      have han : a < n := by omega
      have hbn : b < n := by omega
      have hab : a ≠ b := by omega
      obtain ⟨W2, hW2⟩ : ∃ W2, wr.alloc (.cells #[.int .i64 a, .int .i64 b] 63) = W2 := ⟨_, rfl⟩
      have hbA : Below wr.heap.size wr W2 := by rw [← hW2]; exact (Below.refl _ _).alloc (Nat.le_refl _) _
      have hst : RunSt p n g g' B wr.heap.size v (.slice (some ⟨bu, offu, none⟩) rs.length cu) xs rs nb nb' M w #[.int .i64 a, .int .i64 b] W2 :=
        ⟨N0, X0, s1.below hbA, s2.below hbA, s3, s4.below hbA, s5.below hbA (by have := s5.size; omega), owns_below s6 hbA, by have := hbA.size; omega, by rw [← hW2]; exact heap_alloc_new _ _⟩
      have HST := Lib.hid hst
      have HJ := Lib.hid (And.intro hjn (And.intro han (And.intro hbn hab)))
      clear s1 s2 s3 s4 s5 s6 s7 ra0 ra1 rb0 rb1 rab hI64 hcell ha hb hjn hab hbA hst
      obtain ⟨b9, hb9⟩ : ∃ b9, wr.heap.size = b9 := ⟨_, rfl⟩
      rw [hb9] at HST
      go_wp2_with fail
      clear hW2 m1 m2 hb9 HR
      obtain ⟨wo, rfl⟩ : ∃ wo : World, wo = wr := ⟨_, rfl⟩
      go_loopw [24] (fun i wq => ∃ f : Nat, f ≤ n ∧ i = .int .i64 f ∧ Hid (RunSt p n g g' B b9 v (.slice (some ⟨bu, offu, none⟩) rs.length cu) xs rs nb nb' M w #[.int .i64 a, .int .i64 b] wq)) (fun i _ => n - (intOf i).toNat)
      case atStart => exact ⟨0, Nat.zero_le _, rfl, HST⟩
      case round =>
        obtain ⟨f, hf, rfl, HQ⟩ := hrel
        by_cases hfn : f < n
        · have hfi : (f : Int) < n := by omega
          obtain ⟨N, X, s1, s2, s3, s4, s5, s6, s7, s8⟩ := HQ.out
          obtain ⟨hjn, han, hbn, hab⟩ := HJ.out
          obtain ⟨ca, hca, m1⟩ := s1.cell han
          obtain ⟨cb, hcb, m2⟩ := s1.cell hbn
          have m3 := (s1.row a han).cell hfn
          have m4 := (s1.row b hbn).cell hfn
          obtain ⟨m5, m6⟩ := two_at s8
          have hna := s3.now0 a f han hfn
          have hnv := s3.now0 b f hbn hfn
          have hMa := HMM.out a f han hfn
          have hMb := HMM.out b f hbn hfn
          have hXa := s3.bound (fun h f hh hf => (HMM.out h f hh hf).2) hn han hfn
          have hXb := s3.bound (fun h f hh hf => (HMM.out h f hh hf).2) hn hbn hfn
          obtain ⟨na, ena⟩ : ∃ x, N a f = x := ⟨_, rfl⟩
          obtain ⟨nv, env⟩ : ∃ x, N b f = x := ⟨_, rfl⟩
          obtain ⟨xa, exa⟩ : ∃ x, X a f = x := ⟨_, rfl⟩
          obtain ⟨xb, exb⟩ : ∃ x, X b f = x := ⟨_, rfl⟩
          rw [ena] at m3 hna
          rw [env] at m4 hnv
          rw [exa] at hXa
          rw [exb] at hXb
          have hna0 : 0 ≤ na := hna.1
          have hna1 : na ≤ 100 := by omega
          have hnv0 : 0 ≤ nv := hnv.1
          have hnv1 : nv ≤ 100 := by omega
          have hai : (a : Int) < n := by omega
          have hbi : (b : Int) < n := by omega
          have hwa : IntKind.i64.wrap (na + 1) = na + 1 := by rw [IntKind.wrap_i64]; omega
          have hwb : IntKind.i64.wrap (nv + 1) = nv + 1 := by rw [IntKind.wrap_i64]; omega
          have nbp := (HNW.out.1 a han).1
          have nbp2 := (HNW.out.1 b hbn).1
          have b9p : b9 ≠ p := by
            obtain ⟨_, _, h2, _⟩ := s4.blk
            rintro rfl; rw [s8] at h2; cases h2
          have hgp := HNP.out.1
          have bl := fun {b0 o : Nat} {x : Value} (h : wr.cell? ⟨b0, o, none⟩ = some x) => block_lt_of_cell h
          have HPQ : Hid (∀ W, Hid (ChuteAt W p v xs ∧ Turned p wr W) → RunBox p v xs wr b9 g a b f (.slice (some ⟨nb a, 0, none⟩) n ca) (.slice (some ⟨nb b, 0, none⟩) n cb) (nb a) (nb b) na nv W) := fun W h =>
            ⟨(h.out.2.cell (a := ⟨b9, 0, none⟩) (bl m5) b9p).trans m5, (h.out.2.cell (a := ⟨b9, 1, none⟩) (bl m6) b9p).trans m6, (h.out.2.cell (a := ⟨g, a, none⟩) (bl m1) hgp).trans m1, (h.out.2.cell (a := ⟨g, b, none⟩) (bl m2) hgp).trans m2, (h.out.2.cell (a := ⟨nb a, f, none⟩) (bl m3) (show nb a ≠ p by omega)).trans m3, (h.out.2.cell (a := ⟨nb b, f, none⟩) (bl m4) (show nb b ≠ p by omega)).trans m4, h⟩
          have hP : wr.drew.cell? ⟨b9, 0, none⟩ = some (.int .i64 a) ∧ wr.drew.cell? ⟨b9, 1, none⟩ = some (.int .i64 b) ∧ wr.drew.cell? ⟨g, a, none⟩ = some (.slice (some ⟨nb a, 0, none⟩) n ca) ∧ wr.drew.cell? ⟨g, b, none⟩ = some (.slice (some ⟨nb b, 0, none⟩) n cb) ∧ wr.drew.cell? ⟨nb a, f, none⟩ = some (.int .i64 na) ∧ wr.drew.cell? ⟨nb b, f, none⟩ = some (.int .i64 nv) ∧ Hid (ChuteAt wr.drew p v xs ∧ Turned p wr wr.drew) := HPQ.out _ ⟨s4.drew, (Turned.refl p wr).drew⟩
          have HPU : Hid (∀ W m, Hid (ChuteAt W p v xs ∧ Turned p wr W) → m ≤ 256 → 0 ≤ m → Calls Try.prog 38 #[.pointer (some ⟨p, 0, none⟩), .int .i64 m] W fun e w' => ∃ x : Int, e = .returned (.int .i64 x) ∧ 0 ≤ x ∧ (x < m ∨ x = 0) ∧ Hid (ChuteAt w' p v xs ∧ Turned p wr w')) := fun W m h h1 h2 => (pull_any p v xs m W h.out.1 h1 (by omega)).mono fun e w' ⟨x, a1, a2, a3, a4, a5⟩ => ⟨x, a1, a2, a3, a4, h.out.2.trans a5⟩
          have HS := Lib.hid (And.intro s1 (And.intro s2 (And.intro s3 (And.intro s5 (And.intro s6 (And.intro s7 s8))))))
          have HBP := Lib.hid b9p
          have HC4 := Lib.hid s4
          have HE := Lib.hid (And.intro ena (And.intro env (And.intro exa exb)))
          clear s1 s2 s3 s4 s5 s6 s7 s8 ena env exa exb m1 m2 m3 m4 m5 m6 hna hnv hMa hMb hjn bl b9p hgp
          go_upto_region 8 with (fail)
          go_region_held3 (fun w' => w'.cell? ⟨b9, 0, none⟩ = some (.int .i64 a) ∧ w'.cell? ⟨b9, 1, none⟩ = some (.int .i64 b) ∧ w'.cell? ⟨g, a, none⟩ = some (.slice (some ⟨nb a, 0, none⟩) n ca) ∧ w'.cell? ⟨g, b, none⟩ = some (.slice (some ⟨nb b, 0, none⟩) n cb) ∧ w'.cell? ⟨nb a, f, none⟩ = some (.int .i64 na) ∧ w'.cell? ⟨nb b, f, none⟩ = some (.int .i64 nv) ∧ Hid (ChuteAt w' p v xs ∧ Turned p wr w')) (first | with_reducible assumption | with_reducible exact HPQ.out _ hk9 | with_reducible exact HPQ.out _ hk8 | fail) (first | (go_at_call 38; (with_reducible refine (HPU.out _ (na + 1) (by exact (by assumption : _ ∧ _ ∧ _ ∧ _ ∧ _ ∧ _ ∧ Hid _).2.2.2.2.2.2) (by omega) (by omega)).mono ?_); rintro e w8 ⟨x, rfl, hx0, hx1, hk8⟩) | (go_at_call 38; (with_reducible refine (HPU.out _ (nv + 1) (by exact (by assumption : _ ∧ _ ∧ _ ∧ _ ∧ _ ∧ _ ∧ Hid _).2.2.2.2.2.2) (by omega) (by omega)).mono ?_); rintro e w9 ⟨y, rfl, hy0, hy1, hk9⟩) | fail)
          have hxn : x ≤ na := by omega
          have hyn : y ≤ nv := by omega
          obtain ⟨s1, s2, s3, s5, s6, s7, s8⟩ := HS.out
          obtain ⟨hjn, _, _, _⟩ := HJ.out
          obtain ⟨ena, env, exa, exb⟩ := HE.out
          obtain ⟨hc9, ht9⟩ := hk9.out
          have hpw := HNW.out.2.2
          have hgw := HNW.out.2.1
          have hg'w : w.heap.size ≤ g' := by have := H1.out.2.1; simp at this; omega
          have hnn : ∀ j, j < n → w.heap.size ≤ nb' j := fun j hj => by have := H1.out.2.2.1 j hj; simp at this; omega
          have b9p := HBP.out
          have t1 := s1.turned ht9 HNP.out.1 HNP.out.2
          have t2 := s2.turned ht9 (by omega) (fun j hj => by have := hnn j hj; omega)
          have t5 := s5.turned ht9
          have t6 := owns_turned s6 HC4.out (by decide) ht9
          have t7 : w.heap.size < w9.heap.size := Nat.lt_of_lt_of_le s7 ht9.size
          have t8 := (ht9.block b9 (Array.getElem?_eq_some_iff.1 s8).1 b9p).trans s8
          obtain ⟨m5, m6⟩ := two_at t8
          obtain ⟨ca', _, m1⟩ := t1.cell han
          obtain ⟨cb', _, m2⟩ := t1.cell hbn
          have m3 := (t1.row a han).cell hfn
          have m4 := (t1.row b hbn).cell hfn
          have f3 := (t1.row a han).free f
          rw [ena] at m3
          rw [env] at m4
          have hne : nb b ≠ nb a := fun h => hab (t1.inj a b han hbn h.symm)
          have u1 := t1.set (na - x) han hfn
          have m7 := (u1.row b hbn).cell hfn
          rw [setM_ne (fun h => hab h.1.symm), env] at m7
          have f7 := (u1.row b hbn).free f
          have HBN := Lib.hid (And.intro ((t1.row a han).cell_ne t8 (by decide)).symm (And.intro ((t1.row b hbn).cell_ne t8 (by decide)).symm (And.intro (t1.gne han).symm (t1.gne hbn).symm)))
          have HT := Lib.hid (And.intro t1 (And.intro t2 (And.intro s3 (And.intro hc9 (And.intro t5 (And.intro t6 (And.intro t7 t8)))))))
          have hwx : IntKind.i64.wrap (na - x) = na - x := by rw [IntKind.wrap_i64]; omega
          have hwy : IntKind.i64.wrap (nv - y) = nv - y := by rw [IntKind.wrap_i64]; omega
          have HIDE := Lib.hid (And.intro hg'w (And.intro hnn (And.intro hjn (And.intro hgw (And.intro hx1 hy1)))))
          clear s1 s2 s3 s5 s6 s7 s8 ena env exa exb hc9 ht9 t1 t2 t5 t6 t7 t8 u1 hk8 hk9 hP HPQ HPU HS hg'w hnn hjn hgw hpw b9p hx1 hy1
          go_upto_region 9 with (fail)
          have c5 : b9 ≠ nb a := HBN.out.1
          have c6 : b9 ≠ nb b := HBN.out.2.1
          have c7 : g ≠ nb a := HBN.out.2.2.1
          have c8 : g ≠ nb b := HBN.out.2.2.2
          have hP : w9.drew.cell? ⟨b9, 0, none⟩ = some (.int .i64 a) ∧ w9.drew.cell? ⟨b9, 1, none⟩ = some (.int .i64 b) ∧ w9.drew.cell? ⟨g, a, none⟩ = some (.slice (some ⟨nb a, 0, none⟩) n ca') ∧ w9.drew.cell? ⟨g, b, none⟩ = some (.slice (some ⟨nb b, 0, none⟩) n cb') := ⟨m5, m6, m1, m2⟩
          have hS1 : (w9.drew.setCell ⟨nb a, f, none⟩ (.int .i64 (na - x))).cell? ⟨b9, 0, none⟩ = some (.int .i64 a) ∧ (w9.drew.setCell ⟨nb a, f, none⟩ (.int .i64 (na - x))).cell? ⟨b9, 1, none⟩ = some (.int .i64 b) ∧ (w9.drew.setCell ⟨nb a, f, none⟩ (.int .i64 (na - x))).cell? ⟨g, a, none⟩ = some (.slice (some ⟨nb a, 0, none⟩) n ca') ∧ (w9.drew.setCell ⟨nb a, f, none⟩ (.int .i64 (na - x))).cell? ⟨g, b, none⟩ = some (.slice (some ⟨nb b, 0, none⟩) n cb') :=
            ⟨(cell_other c5).trans m5, (cell_other c5).trans m6, (cell_other c7).trans m1, (cell_other c7).trans m2⟩
          have hS2 : ((w9.drew.setCell ⟨nb a, f, none⟩ (.int .i64 (na - x))).setCell ⟨nb b, f, none⟩ (.int .i64 (nv - y))).cell? ⟨b9, 0, none⟩ = some (.int .i64 a) ∧ ((w9.drew.setCell ⟨nb a, f, none⟩ (.int .i64 (na - x))).setCell ⟨nb b, f, none⟩ (.int .i64 (nv - y))).cell? ⟨b9, 1, none⟩ = some (.int .i64 b) ∧ ((w9.drew.setCell ⟨nb a, f, none⟩ (.int .i64 (na - x))).setCell ⟨nb b, f, none⟩ (.int .i64 (nv - y))).cell? ⟨g, a, none⟩ = some (.slice (some ⟨nb a, 0, none⟩) n ca') ∧ ((w9.drew.setCell ⟨nb a, f, none⟩ (.int .i64 (na - x))).setCell ⟨nb b, f, none⟩ (.int .i64 (nv - y))).cell? ⟨g, b, none⟩ = some (.slice (some ⟨nb b, 0, none⟩) n cb') :=
            ⟨(cell_other c6).trans hS1.1, (cell_other c6).trans hS1.2.1, (cell_other c8).trans hS1.2.2.1, (cell_other c8).trans hS1.2.2.2⟩
          have HS1 := Lib.hid hS1
          have HS2 := Lib.hid hS2
          have m7' : (w9.drew.setCell ⟨nb a, f, none⟩ (.int .i64 (na - x))).cell? ⟨nb b, f, none⟩ = some (.int .i64 nv) := m7
          have f7' : (w9.drew.setCell ⟨nb a, f, none⟩ (.int .i64 (na - x))).frozen? ⟨nb b, f, none⟩ = false := f7
          clear hS1 hS2 c5 c6 c7 c8
          have hPP := hP
          refine wp_region_noPanic ?_
          refine wp_region_held_drew (S := (fun w' => w'.cell? ⟨b9, 0, none⟩ = some (.int .i64 a) ∧ w'.cell? ⟨b9, 1, none⟩ = some (.int .i64 b) ∧ w'.cell? ⟨g, a, none⟩ = some (.slice (some ⟨nb a, 0, none⟩) n ca') ∧ w'.cell? ⟨g, b, none⟩ = some (.slice (some ⟨nb b, 0, none⟩) n cb'))) (by kernel_rfl) hP (fun hHeld => ?_)
          refine takeH (i := 0) (d := 49) (v := ?_) rfl rfl (by kernel_rfl) (by kernel_rfl) (by kernel_rfl) (fun _ _ _ _ _ h => h) (by rfl) ?_ (by assumption) ?_
          rotate_left
          · intro w hSw
            (try dsimp only at hSw)
            go_simp
            try with_reducible rfl
          (try simp only [Act.put, List.setIfInBounds_toArray, List.set_cons_zero, List.set_cons_succ])
          refine takeH (i := 1) (d := 50) (v := ?_) rfl rfl (by kernel_rfl) (by kernel_rfl) (by kernel_rfl) (fun _ _ _ _ _ h => h) (by rfl) ?_ (by assumption) ?_
          rotate_left
          · intro w hSw
            (try dsimp only at hSw)
            go_simp
            try with_reducible rfl
          (try simp only [Act.put, List.setIfInBounds_toArray, List.set_cons_zero, List.set_cons_succ])
          refine takeH (i := 2) (d := 51) (v := ?_) rfl rfl (by kernel_rfl) (by kernel_rfl) (by kernel_rfl) (fun _ _ _ _ _ h => h) (by rfl) ?_ (by assumption) ?_
          rotate_left
          · intro w hSw
            (try dsimp only at hSw)
            go_simp
            try with_reducible rfl
          (try simp only [Act.put, List.setIfInBounds_toArray, List.set_cons_zero, List.set_cons_succ])
          refine takeH (i := 3) (d := 52) (v := ?_) rfl rfl (by kernel_rfl) (by kernel_rfl) (by kernel_rfl) (fun _ _ _ _ _ h => h) (by rfl) ?_ (by assumption) ?_
          rotate_left
          · intro w hSw
            (try dsimp only at hSw)
            go_simp
            try with_reducible rfl
          (try simp only [Act.put, List.setIfInBounds_toArray, List.set_cons_zero, List.set_cons_succ])
          refine takeH (i := 4) (d := 53) (v := ?_) rfl rfl (by kernel_rfl) (by kernel_rfl) (by kernel_rfl) (fun _ _ _ _ _ h => h) (by rfl) ?_ (by assumption) ?_
          rotate_left
          · intro w hSw
            (try dsimp only at hSw)
            go_simp
            try with_reducible rfl
          (try simp only [Act.put, List.setIfInBounds_toArray, List.set_cons_zero, List.set_cons_succ])
          refine takeH (i := 5) (d := 54) (v := ?_) rfl rfl (by kernel_rfl) (by kernel_rfl) (by kernel_rfl) (fun _ _ _ _ _ h => h) (by rfl) ?_ (by assumption) ?_
          rotate_left
          · intro w hSw
            (try dsimp only at hSw)
            go_simp
            try with_reducible rfl
          (try simp only [Act.put, List.setIfInBounds_toArray, List.set_cons_zero, List.set_cons_succ])
          refine takeH (i := 6) (d := 55) (v := ?_) rfl rfl (by kernel_rfl) (by kernel_rfl) (by kernel_rfl) (fun _ _ _ _ _ h => h) (by rfl) ?_ (by assumption) ?_
          rotate_left
          · intro w hSw
            (try dsimp only at hSw)
            go_simp
            try with_reducible rfl
          (try simp only [Act.put, List.setIfInBounds_toArray, List.set_cons_zero, List.set_cons_succ])
          refine takeH (i := 7) (d := 56) (v := ?_) rfl rfl (by kernel_rfl) (by kernel_rfl) (by kernel_rfl) (fun _ _ _ _ _ h => h) (by rfl) ?_ (by assumption) ?_
          rotate_left
          · intro w hSw
            (try dsimp only at hSw)
            go_simp
            try with_reducible rfl
          (try simp only [Act.put, List.setIfInBounds_toArray, List.set_cons_zero, List.set_cons_succ])
          refine takeH (i := 8) (d := 57) (v := ?_) rfl rfl (by kernel_rfl) (by kernel_rfl) (by kernel_rfl) (fun _ _ _ _ _ h => h) (by rfl) ?_ (by assumption) ?_
          rotate_left
          · intro w hSw
            (try dsimp only at hSw)
            go_simp
            try with_reducible rfl
          (try simp only [Act.put, List.setIfInBounds_toArray, List.set_cons_zero, List.set_cons_succ])
          refine takeH (i := 9) (d := 58) (v := ?_) rfl rfl (by kernel_rfl) (by kernel_rfl) (by kernel_rfl) (fun _ _ _ _ _ h => h) (by rfl) ?_ (by assumption) ?_
          rotate_left
          · intro w hSw
            (try dsimp only at hSw)
            go_simp
            try with_reducible rfl
          (try simp only [Act.put, List.setIfInBounds_toArray, List.set_cons_zero, List.set_cons_succ])
          refine takeH (i := 10) (d := 59) (v := ?_) rfl rfl (by kernel_rfl) (by kernel_rfl) (by kernel_rfl) (fun _ _ _ _ _ h => h) (by rfl) ?_ (by assumption) ?_
          rotate_left
          · intro w hSw
            (try dsimp only at hSw)
            go_simp
            try with_reducible rfl
          (try simp only [Act.put, List.setIfInBounds_toArray, List.set_cons_zero, List.set_cons_succ])
          refine takeH (i := 11) (d := 60) (v := ?_) rfl rfl (by kernel_rfl) (by kernel_rfl) (by kernel_rfl) (fun _ _ _ _ _ h => h) (by rfl) ?_ (by assumption) ?_
          rotate_left
          · intro w hSw
            (try dsimp only at hSw)
            go_simp
            try with_reducible rfl
          (try simp only [Act.put, List.setIfInBounds_toArray, List.set_cons_zero, List.set_cons_succ])
          refine takeH (i := 12) (d := 61) (v := ?_) rfl rfl (by kernel_rfl) (by kernel_rfl) (by kernel_rfl) (fun _ _ _ _ _ h => h) (by rfl) ?_ (by assumption) ?_
          rotate_left
          · intro w hSw
            (try dsimp only at hSw)
            go_simp
            try with_reducible rfl
          (try simp only [Act.put, List.setIfInBounds_toArray, List.set_cons_zero, List.set_cons_succ])
          refine takeH (i := 13) (d := 62) (v := ?_) rfl rfl (by kernel_rfl) (by kernel_rfl) (by kernel_rfl) (fun _ _ _ _ _ h => h) (by rfl) ?_ (by assumption) ?_
          rotate_left
          · intro w hSw
            (try dsimp only at hSw)
            go_simp
            try with_reducible rfl
          (try simp only [Act.put, List.setIfInBounds_toArray, List.set_cons_zero, List.set_cons_succ])
          refine takeH (i := 14) (d := 63) (v := ?_) rfl rfl (by kernel_rfl) (by kernel_rfl) (by kernel_rfl) (fun _ _ _ _ _ h => h) (by rfl) ?_ (by assumption) ?_
          rotate_left
          · intro w hSw
            (try dsimp only at hSw)
            go_simp
            try with_reducible rfl
          (try simp only [Act.put, List.setIfInBounds_toArray, List.set_cons_zero, List.set_cons_succ])
          refine takeH (i := 15) (d := 64) (v := ?_) rfl rfl (by kernel_rfl) (by kernel_rfl) (by kernel_rfl) (fun _ _ _ _ _ h => h) (by rfl) ?_ (by assumption) ?_
          rotate_left
          · intro w hSw
            (try dsimp only at hSw)
            go_simp
            try with_reducible rfl
          (try simp only [Act.put, List.setIfInBounds_toArray, List.set_cons_zero, List.set_cons_succ])
          refine takeH (i := 16) (d := 65) (v := ?_) rfl rfl (by kernel_rfl) (by kernel_rfl) (by kernel_rfl) (fun _ _ _ _ _ h => h) (by rfl) ?_ (by assumption) ?_
          rotate_left
          · intro w hSw
            (try dsimp only at hSw)
            go_simp
            try with_reducible rfl
          (try simp only [Act.put, List.setIfInBounds_toArray, List.set_cons_zero, List.set_cons_succ])
          refine takeH (i := 17) (d := 66) (v := ?_) rfl rfl (by kernel_rfl) (by kernel_rfl) (by kernel_rfl) (fun _ _ _ _ _ h => h) (by rfl) ?_ (by assumption) ?_
          rotate_left
          · intro w hSw
            (try dsimp only at hSw)
            go_simp
            try with_reducible rfl
          (try simp only [Act.put, List.setIfInBounds_toArray, List.set_cons_zero, List.set_cons_succ])
          refine takeH (i := 18) (d := 67) (v := ?_) rfl rfl (by kernel_rfl) (by kernel_rfl) (by kernel_rfl) (fun _ _ _ _ _ h => h) (by rfl) ?_ (by assumption) ?_
          rotate_left
          · intro w hSw
            (try dsimp only at hSw)
            go_simp
            try with_reducible rfl
          (try simp only [Act.put, List.setIfInBounds_toArray, List.set_cons_zero, List.set_cons_succ])
          refine takeH (i := 20) (d := 69) (v := ?_) rfl rfl (by kernel_rfl) (by kernel_rfl) (by kernel_rfl) (fun _ _ _ _ _ h => h) (by rfl) ?_ (by assumption) ?_
          rotate_left
          · intro w hSw
            (try dsimp only at hSw)
            go_simp
            try with_reducible rfl
          (try simp only [Act.put, List.setIfInBounds_toArray, List.set_cons_zero, List.set_cons_succ])
          refine takeH (i := 22) (d := 71) (v := ?_) rfl rfl (by kernel_rfl) (by kernel_rfl) (by kernel_rfl) (fun _ _ _ _ _ h => h) (by rfl) ?_ (by assumption) ?_
          rotate_left
          · intro w hSw
            (try dsimp only at hSw)
            go_simp
            try with_reducible rfl
          (try simp only [Act.put, List.setIfInBounds_toArray, List.set_cons_zero, List.set_cons_succ])
          refine takeH (i := 23) (d := 72) (v := ?_) rfl rfl (by kernel_rfl) (by kernel_rfl) (by kernel_rfl) (fun _ _ _ _ _ h => h) (by rfl) ?_ (by assumption) ?_
          rotate_left
          · intro w hSw
            (try dsimp only at hSw)
            go_simp
            try with_reducible rfl
          (try simp only [Act.put, List.setIfInBounds_toArray, List.set_cons_zero, List.set_cons_succ])
          refine takeH (i := 24) (d := 73) (v := ?_) rfl rfl (by kernel_rfl) (by kernel_rfl) (by kernel_rfl) (fun _ _ _ _ _ h => h) (by rfl) ?_ (by assumption) ?_
          rotate_left
          · intro w hSw
            (try dsimp only at hSw)
            go_simp
            try with_reducible rfl
          (try simp only [Act.put, List.setIfInBounds_toArray, List.set_cons_zero, List.set_cons_succ])
          refine takeH (i := 25) (d := 74) (v := ?_) rfl rfl (by kernel_rfl) (by kernel_rfl) (by kernel_rfl) (fun _ _ _ _ _ h => h) (by rfl) ?_ (by assumption) ?_
          rotate_left
          · intro w hSw
            (try dsimp only at hSw)
            go_simp
            try with_reducible rfl
          (try simp only [Act.put, List.setIfInBounds_toArray, List.set_cons_zero, List.set_cons_succ])
          refine takeH (i := 26) (d := 75) (v := ?_) rfl rfl (by kernel_rfl) (by kernel_rfl) (by kernel_rfl) (fun _ _ _ _ _ h => h) (by rfl) ?_ (by assumption) ?_
          rotate_left
          · intro w hSw
            (try dsimp only at hSw)
            go_simp
            try with_reducible rfl
          (try simp only [Act.put, List.setIfInBounds_toArray, List.set_cons_zero, List.set_cons_succ])
          refine takeH (i := 27) (d := 76) (v := ?_) rfl rfl (by kernel_rfl) (by kernel_rfl) (by kernel_rfl) (fun _ _ _ _ _ h => h) (by rfl) ?_ (by assumption) ?_
          rotate_left
          · intro w hSw
            (try dsimp only at hSw)
            go_simp
            try with_reducible rfl
          (try simp only [Act.put, List.setIfInBounds_toArray, List.set_cons_zero, List.set_cons_succ])
          refine takeH (i := 28) (d := 77) (v := ?_) rfl rfl (by kernel_rfl) (by kernel_rfl) (by kernel_rfl) (fun _ _ _ _ _ h => h) (by rfl) ?_ (by assumption) ?_
          rotate_left
          · intro w hSw
            (try dsimp only at hSw)
            go_simp
            try with_reducible rfl
          (try simp only [Act.put, List.setIfInBounds_toArray, List.set_cons_zero, List.set_cons_succ])
          refine takeH (i := 30) (d := 79) (v := ?_) rfl rfl (by kernel_rfl) (by kernel_rfl) (by kernel_rfl) (fun _ _ _ _ _ h => h) (by rfl) ?_ (by assumption) ?_
          rotate_left
          · intro w hSw
            (try dsimp only at hSw)
            go_simp
            try with_reducible rfl
          (try simp only [Act.put, List.setIfInBounds_toArray, List.set_cons_zero, List.set_cons_succ])
          refine wpAnyH_ready (rs := [19, 29]) (by kernel_rfl) (by simp) ?_
          refine AllReadyH.cons rfl (fun K hK => ?_) (AllReadyH.cons rfl (fun K hK => ?_) AllReadyH.nil)
          focus
            go_simp
            refine hK.out _ _ hP (fun hHeld => ?_)
            clear hK K
            (try simp only [Act.put, List.setIfInBounds_toArray, List.set_cons_zero, List.set_cons_succ])
            refine takeH (i := 21) (d := 70) (v := ?_) rfl rfl (by kernel_rfl) (by kernel_rfl) (by kernel_rfl) (fun _ _ _ _ _ h => h) (by rfl) ?_ (by assumption) ?_
            rotate_left
            · intro w hSw
              (try dsimp only at hSw)
              go_simp
              try with_reducible rfl
            (try simp only [Act.put, List.setIfInBounds_toArray, List.set_cons_zero, List.set_cons_succ])
            refine wpAnyH_ready (rs := [29]) (by kernel_rfl) (by simp) ?_
            refine AllReadyH.cons rfl (fun K hK => ?_) AllReadyH.nil
            go_simp
            refine hK.out _ _ hP (fun hHeld => ?_)
            clear hK K
            (try simp only [Act.put, List.setIfInBounds_toArray, List.set_cons_zero, List.set_cons_succ])
            refine takeH (i := 31) (d := 80) (v := ?_) rfl rfl (by kernel_rfl) (by kernel_rfl) (by kernel_rfl) (fun _ _ _ _ _ h => h) (by rfl) ?_ (by assumption) ?_
            rotate_left
            · intro w hSw
              (try dsimp only at hSw)
              go_simp
              try with_reducible rfl
            (try simp only [Act.put, List.setIfInBounds_toArray, List.set_cons_zero, List.set_cons_succ])
            refine takeH (i := 32) (d := 81) (v := ?_) rfl rfl (by kernel_rfl) (by kernel_rfl) (by kernel_rfl) (fun _ _ _ _ _ h => h) (by rfl) ?_ (by assumption) ?_
            rotate_left
            · intro w hSw
              (try dsimp only at hSw)
              go_simp
              try with_reducible rfl
            (try simp only [Act.put, List.setIfInBounds_toArray, List.set_cons_zero, List.set_cons_succ])
            refine wpAnyH_ready (rs := [33]) (by kernel_rfl) (by simp) ?_
            refine AllReadyH.cons rfl (fun K hK => ?_) AllReadyH.nil
            go_simp
            refine hK.out _ _ HS1.out (fun hHeld => ?_)
            clear hK K
            (try simp only [Act.put, List.setIfInBounds_toArray, List.set_cons_zero, List.set_cons_succ])
            refine takeH (i := 34) (d := 82) (v := ?_) rfl rfl (by kernel_rfl) (by kernel_rfl) (by kernel_rfl) (fun _ _ _ _ _ h => h) (by rfl) ?_ (by assumption) ?_
            rotate_left
            · intro w hSw
              (try dsimp only at hSw)
              go_simp
              try with_reducible rfl
            (try simp only [Act.put, List.setIfInBounds_toArray, List.set_cons_zero, List.set_cons_succ])
            refine wpAnyH_ready (rs := [35]) (by kernel_rfl) (by simp) ?_
            refine AllReadyH.cons rfl (fun K hK => ?_) AllReadyH.nil
            go_simp
            refine hK.out _ _ HS2.out (fun hHeld => ?_)
            clear hK K
            (try simp only [Act.put, List.setIfInBounds_toArray, List.set_cons_zero, List.set_cons_succ])
            refine wpAnyH_done (by kernel_rfl) ?_ _
            refine NoPanic.normal ?_
          rotate_left
          focus
            go_simp
            refine hK.out _ _ hP (fun hHeld => ?_)
            clear hK K
            (try simp only [Act.put, List.setIfInBounds_toArray, List.set_cons_zero, List.set_cons_succ])
            refine takeH (i := 31) (d := 80) (v := ?_) rfl rfl (by kernel_rfl) (by kernel_rfl) (by kernel_rfl) (fun _ _ _ _ _ h => h) (by rfl) ?_ (by assumption) ?_
            rotate_left
            · intro w hSw
              (try dsimp only at hSw)
              go_simp
              try with_reducible rfl
            (try simp only [Act.put, List.setIfInBounds_toArray, List.set_cons_zero, List.set_cons_succ])
            refine wpAnyH_ready (rs := [19]) (by kernel_rfl) (by simp) ?_
            refine AllReadyH.cons rfl (fun K hK => ?_) AllReadyH.nil
            go_simp
            refine hK.out _ _ hP (fun hHeld => ?_)
            clear hK K
            (try simp only [Act.put, List.setIfInBounds_toArray, List.set_cons_zero, List.set_cons_succ])
            refine takeH (i := 21) (d := 70) (v := ?_) rfl rfl (by kernel_rfl) (by kernel_rfl) (by kernel_rfl) (fun _ _ _ _ _ h => h) (by rfl) ?_ (by assumption) ?_
            rotate_left
            · intro w hSw
              (try dsimp only at hSw)
              go_simp
              try with_reducible rfl
            (try simp only [Act.put, List.setIfInBounds_toArray, List.set_cons_zero, List.set_cons_succ])
            refine takeH (i := 32) (d := 81) (v := ?_) rfl rfl (by kernel_rfl) (by kernel_rfl) (by kernel_rfl) (fun _ _ _ _ _ h => h) (by rfl) ?_ (by assumption) ?_
            rotate_left
            · intro w hSw
              (try dsimp only at hSw)
              go_simp
              try with_reducible rfl
            (try simp only [Act.put, List.setIfInBounds_toArray, List.set_cons_zero, List.set_cons_succ])
            refine wpAnyH_ready (rs := [33]) (by kernel_rfl) (by simp) ?_
            refine AllReadyH.cons rfl (fun K hK => ?_) AllReadyH.nil
            go_simp
            refine hK.out _ _ HS1.out (fun hHeld => ?_)
            clear hK K
            (try simp only [Act.put, List.setIfInBounds_toArray, List.set_cons_zero, List.set_cons_succ])
            refine takeH (i := 34) (d := 82) (v := ?_) rfl rfl (by kernel_rfl) (by kernel_rfl) (by kernel_rfl) (fun _ _ _ _ _ h => h) (by rfl) ?_ (by assumption) ?_
            rotate_left
            · intro w hSw
              (try dsimp only at hSw)
              go_simp
              try with_reducible rfl
            (try simp only [Act.put, List.setIfInBounds_toArray, List.set_cons_zero, List.set_cons_succ])
            refine wpAnyH_ready (rs := [35]) (by kernel_rfl) (by simp) ?_
            refine AllReadyH.cons rfl (fun K hK => ?_) AllReadyH.nil
            go_simp
            refine hK.out _ _ HS2.out (fun hHeld => ?_)
            clear hK K
            (try simp only [Act.put, List.setIfInBounds_toArray, List.set_cons_zero, List.set_cons_succ])
            refine wpAnyH_done (by kernel_rfl) ?_ _
            refine NoPanic.normal ?_
          rotate_left
          all_goals
            go_upto_region 10 with (fail)
            obtain ⟨t1, t2, s3, hc9, t5, t6, t7, t8⟩ := HT.out
            obtain ⟨hg'w, hnn, hjn, hgw, hx1, hy1⟩ := HIDE.out
            obtain ⟨ena, env, exa, exb⟩ := HE.out
            have hnw := HNW.out.1
            have b9a : b9 ≠ nb a := ((t1.row a han).cell_ne t8 (by decide)).symm
            have b9b : b9 ≠ nb b := ((t1.row b hbn).cell_ne t8 (by decide)).symm
            have b9c : b9 ≠ nb' a := ((t2.row a han).cell_ne t8 (by decide)).symm
            have n1 : MatAt (w9.setCell ⟨nb a, f, none⟩ (.int .i64 (na - x))) g' n nb' X := t2.other (by have := hnw a han; omega) (fun j hj => by have := hnn j hj; have := hnw a han; omega)
            have n2 : MatAt ((w9.setCell ⟨nb a, f, none⟩ (.int .i64 (na - x))).setCell ⟨nb b, f, none⟩ (.int .i64 (nv - y))) g' n nb' X := n1.other (by have := hnw b hbn; omega) (fun j hj => by have := hnn j hj; have := hnw b hbn; omega)
            have k2 := blk_other (o := f) (z := .int .i64 (nv - y)) (blk_other (o := f) (z := .int .i64 (na - x)) t8 b9a) b9b
            have hfin : RunSt p n g g' B b9 v (.slice (some ⟨bu, offu, none⟩) rs.length cu) xs rs nb nb' M w #[.int .i64 a, .int .i64 b] ((((w9.setCell ⟨nb a, f, none⟩ (.int .i64 (na - x))).setCell ⟨nb b, f, none⟩ (.int .i64 (nv - y))).setCell ⟨nb' a, f, none⟩ (.int .i64 (xa + (y - x)))).setCell ⟨nb' b, f, none⟩ (.int .i64 (xb + (x - y)))) :=
              RunSt.four t1 t2 s3 hc9 t5 t6 t7 t8 hnw hnn hgw hg'w han hbn hfn hab hjn hx0 (by omega) hy0 (by omega) ena env exa exb
            obtain ⟨WA, hWA⟩ : ∃ WA, (w9.setCell ⟨nb a, f, none⟩ (.int .i64 (na - x))).setCell ⟨nb b, f, none⟩ (.int .i64 (nv - y)) = WA := ⟨_, rfl⟩
            rw [hWA] at n2 k2 hfin ⊢
            have n3 := n2.set (xa + (y - x)) han hfn
            have k3 := blk_other (o := f) (z := .int .i64 (xa + (y - x))) k2 b9c
            obtain ⟨p5, p6⟩ := two_at k2
            obtain ⟨_, p6'⟩ := two_at k3
            obtain ⟨cc, _, p1⟩ := n2.cell han
            obtain ⟨cd, _, p2⟩ := n3.cell hbn
            have p3 := (n2.row a han).cell hfn
            have p4 := (n3.row b hbn).cell hfn
            have g3 := (n2.row a han).free f
            have g4 := (n3.row b hbn).free f
            rw [exa] at p3
            rw [setM_ne (fun h => hab h.1.symm), exb] at p4
            have hx100 : x ≤ 100 := by omega
            have hy100 : y ≤ 100 := by omega
            have HFIN := Lib.hid hfin
            clear t1 t2 s3 hc9 t5 t6 t7 t8 hg'w hnn hjn hgw hx1 hy1 ena env exa exb hnw b9a b9b b9c n1 n2 k2 hfin hWA n3 k3 m1 m2 m3 m4 m5 m6 m7 m7' f3 f7 f7' hwx hwy hwa hwb HT HIDE HE
            go_wp2_with fail
            go_roundw
            case rel => exact ⟨f + 1, by omega, by go_num, HFIN.out.drew⟩
            case measure => simp [intOf]; omega
        · obtain rfl : f = n := by omega
          obtain ⟨N, X, s1, s2, s3, s4, s5, s6, s7, _⟩ := HQ.out
          have HNXT := Lib.hid (And.intro s1 (And.intro s2 (And.intro s3 (And.intro s4 (And.intro s5 (And.intro s6 s7))))))
          clear s1 s2 s3 s4 s5 s6 s7
          go_wp2_with fail
          go_roundw
          case rel => exact ⟨k + 1, by omega, by go_num, N, X, HNXT.out⟩
          case measure => simp [intOf]; omega
    · obtain rfl : k = rs.length := by omega
      obtain ⟨N, X, h1, h2, h3, h4, h5, h6, h7⟩ := HR.out
      have HF : Hid (RunPost p n v xs rs nb M w (.returned (.slice (some ⟨g', 0, none⟩) n q')) wr) := ⟨g', q', nb', X, rfl, hq', h2, by have := H1.out.2.1; simp at this; omega, fun j hj => by have := H1.out.2.2.1 j hj; simp at this; omega, h4, h5, h3.ok⟩
      clear h1 h2 h3 h4 h5 h6 h7
      go_wp2_with fail
      go_ret
      exact HF.out
end Go.Proofs.Ytnhifinfjfpoiaa
