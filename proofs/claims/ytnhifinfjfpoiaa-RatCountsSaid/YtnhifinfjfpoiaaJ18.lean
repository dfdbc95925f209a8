/- What a truth is, in plain Lean; and that what the share gives is one, with the most rats or with the fewest. Contracts of slices.Clone over integers, of rat.sum, and of the law's count. Contracts of the closures of rat.Fits: rats of a list are taken from rooms. What rat.Fits asks, in plain Lean: rats are taken from rooms list by list just if the lists are a truth. Contract of rat.Fits. Contract of rat.Fits, where lists have the lengths that are asked. Contracts of rat.Find. -/
import Derived.Test.YtnhifinfjfpoiaaJ09
import Derived.Test.YtnhifinfjfpoiaaJ11
import Derived.Test.YtnhifinfjfpoiaaJ10
import Derived.Test.YtnhifinfjfpoiaaJ07
import Derived.Test.YtnhifinfjfpoiaaJ17
import Derived.Lib.LazyBuf
import Derived.Deep.AppendLies
namespace Go.Proofs.Ytnhifinfjfpoiaa
open Go.RowKit
set_option linter.unusedVariables false

/-- Rows T, and a row L of those that are left, are a truth of a colony. -/
structure FitsP (c : Col) (T : List (List Int)) (L : List Int) : Prop where
  cell : ∀ k, k < (needsC c).length → ∀ h, h < c.rooms.length → 0 ≤ nth (nthR T k) h ∧ (0 < nth (nthR T k) h → (frm (needsC c) k).testBit h = true)
  row : ∀ k, k < (needsC c).length → sumN (nth (nthR T k)) c.rooms.length = (nthP (needsC c) k).1
  left : ∀ h, h < c.rooms.length → 0 ≤ nth L h ∧ (0 < nth L h → (unionN (leftC c)).testBit h = true)
  col : ∀ h, h < c.rooms.length → sumN (fun k => nth (nthR T k) h) (needsC c).length + nth L h ≤ nth c.rooms h

theorem sumN_cut {f : Nat → Int} {n : Nat} : ∀ {m : Nat}, n ≤ m → (∀ i, n ≤ i → i < m → f i = 0) → sumN f m = sumN f n
  | 0, h, _ => by have : n = 0 := by omega
                  subst this; rfl
  | m + 1, h, hz => by
    by_cases e : n = m + 1
    · subst e; rfl
    · rw [sumN_succ, sumN_cut (m := m) (by omega) (fun i h1 h2 => hz i h1 (by omega)), hz m (by omega) (by omega), Int.add_zero]

theorem fold_fed (nl : List (Int × Int)) (rl : List Int) (hrl : ∀ h, h < 6 → 0 ≤ nth rl h ∧ nth rl h ≤ 1000) (hnl : ∀ k, k < nl.length → 0 ≤ rats nl k) : ∀ n, n ≤ nl.length → Fed nl (nth rl) n 0 ((List.range n).foldl (shNeed nl) (sh0 rl)) := by
  intro n
  induction n with
  | zero =>
    intro _
    refine ⟨⟨fun h hh => (hrl h hh).1, fun _ _ _ _ => Int.le_refl _, fun _ _ _ _ h => absurd h (by show ¬ (0 : Int) < 0; decide), fun h hh => ?_⟩, ?_, fun o _ _ => sumN_zero 6, fun _ => sumN_zero 6, fun o h => by omega, ⟨fun _ => false, fun _ _ h => (by cases h), fun o h => (by omega)⟩, fun _ o h => (by omega), fun h => (by cases h)⟩
    · show nth rl h + sumN (fun _ => 0) nl.length = _
      rw [sumN_zero]; omega
    · show (0 : Int) = sumN (fun o => sumN (fun _ => 0) 6) nl.length
      simp only [sumN_zero]
  | succ n ih =>
    intro hn
    rw [List.range_succ, List.foldl_append]
    simp only [List.foldl_cons, List.foldl_nil]
    have h1 := hnl n (by omega)
    exact shRep_fed (fun h hh => (hrl h hh).2) n (by omega) _ 0 _ (ih (by omega)) (by unfold rats at *; omega)

/-- Rats of one need leave those of all others as many as they were. -/
theorem shRep_other {nl : List (Int × Int)} {r0 : Nat → Int} (hr0 : ∀ h, h < 6 → r0 h ≤ 1000) (k : Nat) (hk : k < nl.length) : ∀ (n : Nat) (x : Sh), Good (frm nl) nl.length r0 x.room x.giv → ∀ o, o ≠ k → perNeed (shRep nl k n x).giv o = perNeed x.giv o
  | 0, x, _, o, _ => rfl
  | n + 1, x, g, o, ho => by
    have z64 : (0 : Nat) < 64 := by decide
    cases q : (putF nl k x.room x.giv).1
    · rw [shRep_no q]
      have hs : (putF nl k x.room x.giv).2.room = x.room ∧ (putF nl k x.room x.giv).2.giv = x.giv := tryF_fail _ _ 7 k _ q
      have eg : (x.no (putF nl k x.room x.giv).2).giv = x.giv := hs.2
      rw [eg]
    · rw [shRep_yes q]
      have st : Step (frm nl) nl.length r0 k ⟨0, x.room, x.giv⟩ (putF nl k x.room x.giv).2 := tryF_step (frm nl) nl.length r0 hr0 7 k ⟨0, x.room, x.giv⟩ hk z64 g q
      have h1 := shRep_other hr0 k hk n (x.yes (putF nl k x.room x.giv).2) st.good o ho
      rw [h1]
      exact st.other o ho

/-- The share of what was caught, and of some rats more. -/
def findX (c : Col) (x : Int) : Sh := shareF (needsC c ++ [(x, ((unionN (leftC c) : Nat) : Int))]) c.rooms
def findT (c : Col) (x : Int) : List (List Int) := (List.range (needsC c).length).map fun k => (List.range c.rooms.length).map ((findX c x).giv k)
def findL (c : Col) (x : Int) : List Int := (List.range c.rooms.length).map ((findX c x).giv (needsC c).length)
theorem nth_range (f : Nat → Int) (n i : Nat) (h : i < n) : nth ((List.range n).map f) i = f i := by simp [nth, h]
theorem findT_at {c : Col} {x : Int} {k h : Nat} (hk : k < (needsC c).length) (hh : h < c.rooms.length) : nth (nthR (findT c x) k) h = (findX c x).giv k h := by
  have e : nthR (findT c x) k = (List.range c.rooms.length).map ((findX c x).giv k) := by simp [findT, nthR, hk]
  rw [e, nth_range _ _ _ hh]
theorem findL_at {c : Col} {x : Int} {h : Nat} (hh : h < c.rooms.length) : nth (findL c x) h = (findX c x).giv (needsC c).length h := nth_range _ _ _ hh

theorem frm_app (nl : List (Int × Int)) (q : Int × Int) {k : Nat} (h : k < nl.length) : frm (nl ++ [q]) k = frm nl k := by
  unfold frm; rw [nthP_app, if_pos h]
theorem rats_at (nl : List (Int × Int)) (q : Int × Int) {k : Nat} (h : k < nl.length) : rats (nl ++ [q]) k = rats nl k := by
  unfold rats; rw [nthP_app, if_pos h]
theorem frm_last (nl : List (Int × Int)) (x : Int) (f : Nat) : frm (nl ++ [(x, (f : Int))]) nl.length = f := by
  unfold frm; rw [nthP_app, if_neg (Nat.lt_irrefl _), if_pos rfl]; simp

theorem rooms_ok {c : Col} (ok : OkCol c) : ∀ h, h < 6 → 0 ≤ nth c.rooms h ∧ nth c.rooms h ≤ 1000 := fun h hh => by have := ok.rooms6 h hh; omega

/-- All that were caught have room, whatever others are asked behind them. -/
theorem find_whole {c : Col} (hk : fitErr c = 0) {x : Int} (hx : 0 ≤ x) : Fed (needsC c ++ [(x, ((unionN (leftC c) : Nat) : Int))]) (nth c.rooms) ((needsC c).length + 1) 0 (findX c x) ∧
    ∀ k, k < (needsC c).length → perNeed (findX c x).giv k = rats (needsC c) k := by
  have ok := okCol_of (fit_parts hk).1
  obtain ⟨q, hq⟩ : ∃ q : Int × Int, (x, ((unionN (leftC c) : Nat) : Int)) = q := ⟨_, rfl⟩
  have hnn : ∀ k, k < (needsC c ++ [q]).length → 0 ≤ rats (needsC c ++ [q]) k := by rw [← hq]; exact rats_app (needs_nonneg ok) hx
  have hl : (needsC c ++ [q]).length = (needsC c).length + 1 := by simp
  have f1 := fold_fed (needsC c ++ [q]) c.rooms (rooms_ok ok) hnn (needsC c).length (by omega)
  have f2 := fold_fed (needsC c ++ [q]) c.rooms (rooms_ok ok) hnn ((needsC c).length + 1) (by omega)
  have e : findX c x = (List.range ((needsC c).length + 1)).foldl (shNeed (needsC c ++ [q])) (sh0 c.rooms) := by
    unfold findX shareF; rw [hq, hl]
  rw [hq, e]
  refine ⟨f2, fun k hkl => ?_⟩
  rw [List.range_succ, List.foldl_append]
  simp only [List.foldl_cons, List.foldl_nil]
  obtain ⟨y, hy⟩ : ∃ y, (List.range (needsC c).length).foldl (shNeed (needsC c ++ [q])) (sh0 c.rooms) = y := ⟨_, rfl⟩
  rw [hy] at f1 ⊢
  have ho : perNeed (shNeed (needsC c ++ [q]) y (needsC c).length).giv k = perNeed y.giv k :=
    shRep_other (fun h hh => (rooms_ok ok h hh).2) _ (by omega) _ y f1.good k (by omega)
  rw [ho, ← rats_at (needsC c) q hkl]
  cases ht : y.torn
  · exact f1.whole ht k hkl
  · exfalso
    obtain ⟨_, s2, o, s3, s4, s5, s6⟩ := f1.short ht
    have hw := within_tight f1.good s2
    have hc : cutC (needsC c) (nth c.rooms) = totC c := by rw [← fit_cut ok, fit_all hk]
    have h3 := cut_le (needsC c) (nth c.rooms) y.short.testBit
    have h4 := all_split (needsC c) (rats (needsC c)) y.short.testBit
    have h5 : sumN (rats (needsC c)) (needsC c).length = totC c := rfl
    have h6 : sumN (fun o => if subB (frm (needsC c) o) y.short.testBit = true then rats (needsC c) o else 0) (needsC c).length ≤ roomsOf (nth c.rooms) y.short.testBit := by
      unfold elsewhere at h3; omega
    have h7 : withinOf (frm (needsC c ++ [q])) (needsC c ++ [q]).length y.giv y.short.testBit = sumN (fun o => if subB (frm (needsC c) o) y.short.testBit = true then perNeed y.giv o else 0) (needsC c).length := by
      unfold withinOf
      rw [hl, sumN_succ, f1.now (by omega)]
      have : (if subB (frm (needsC c ++ [q]) (needsC c).length) y.short.testBit = true then (0 : Int) else 0) = 0 := by split <;> rfl
      rw [this, Int.add_zero]
      exact sumN_congr fun i hi => by rw [frm_app _ _ hi]
    have h8 : sumN (fun o => if subB (frm (needsC c) o) y.short.testBit = true then perNeed y.giv o else 0) (needsC c).length < sumN (fun o => if subB (frm (needsC c) o) y.short.testBit = true then rats (needsC c) o else 0) (needsC c).length := by
      refine sumN_lt (k := o) (fun i hi => ?_) s3 ?_
      · split
        · have := f1.most i hi
          rw [rats_at _ _ hi] at this; exact this
        · exact Int.le_refl _
      · have hs : subB (frm (needsC c) o) y.short.testBit = true := by rw [← frm_app (needsC c) q s3]; exact subB_iff.2 s5
        rw [if_pos hs, if_pos hs, ← rats_at (needsC c) q s3]; exact s6
    omega

theorem find_good {c : Col} (hk : fitErr c = 0) {x : Int} (hx : 0 ≤ x) : Good (frm (needsC c ++ [(x, ((unionN (leftC c) : Nat) : Int))])) ((needsC c).length + 1) (nth c.rooms) (findX c x).room (findX c x).giv := by
  have h := (find_whole hk hx).1.good
  rw [show (needsC c ++ [(x, ((unionN (leftC c) : Nat) : Int))]).length = (needsC c).length + 1 by simp] at h
  exact h
theorem find_row {c : Col} (hk : fitErr c = 0) {x : Int} (hx : 0 ≤ x) {k : Nat} (hkl : k < (needsC c).length + 1) : perNeed (findX c x).giv k = sumN ((findX c x).giv k) c.rooms.length := by
  have g := find_good hk hx
  have ok := okCol_of (fit_parts hk).1
  refine sumN_cut ok.houses.2 fun i h1 h2 => ?_
  have a := (g.le hkl h2).2
  have b := g.giv k i hkl h2
  have e : nth c.rooms i = 0 := by simp [nth, h1]
  omega

/-- What is found is a truth. -/
theorem find_fits {c : Col} (hk : fitErr c = 0) {x : Int} (hx : 0 ≤ x) : FitsP c (findT c x) (findL c x) := by
  have g := find_good hk hx
  have ok := okCol_of (fit_parts hk).1
  have w := (find_whole hk hx).2
  have o2 := ok.houses.2
  refine ⟨fun k hkl h hh => ?_, fun k hkl => ?_, fun h hh => ?_, fun h hh => ?_⟩
  · rw [findT_at hkl hh]
    refine ⟨g.giv k h (by omega) (by omega), fun hp => ?_⟩
    have := g.supp k h (by omega) (by omega) hp
    rw [frm_app _ _ hkl] at this; exact this
  · have e : sumN (nth (nthR (findT c x) k)) c.rooms.length = sumN ((findX c x).giv k) c.rooms.length := sumN_congr fun i hi => findT_at hkl hi
    rw [e, ← find_row hk hx (by omega)]
    exact w k hkl
  · rw [findL_at hh]
    refine ⟨g.giv _ h (by omega) (by omega), fun hp => ?_⟩
    have := g.supp _ h (by omega) (by omega) hp
    rw [frm_last] at this; exact this
  · rw [findL_at hh]
    have ht := g.tot h (by omega)
    have hr := g.room h (by omega)
    rw [sumN_succ] at ht
    have e : sumN (fun k => nth (nthR (findT c x) k) h) (needsC c).length = sumN (fun k => (findX c x).giv k h) (needsC c).length := sumN_congr fun i hi => findT_at hi hh
    rw [e]; omega

/-- How many rats a truth has. -/
def countT (T : List (List Int)) (L : List Int) (n K : Nat) : Int := sumN (nth L) n + sumN (fun k => sumN (nth (nthR T k)) n) K
theorem find_count {c : Col} (hk : fitErr c = 0) {x : Int} (hx : 0 ≤ x) : countT (findT c x) (findL c x) c.rooms.length (needsC c).length = (findX c x).all := by
  have f := (find_whole hk hx).1
  rw [f.all, show (needsC c ++ [(x, ((unionN (leftC c) : Nat) : Int))]).length = (needsC c).length + 1 by simp, sumN_succ]
  unfold countT
  have e1 : sumN (nth (findL c x)) c.rooms.length = perNeed (findX c x).giv (needsC c).length := by
    rw [find_row hk hx (by omega)]; exact sumN_congr fun i hi => findL_at hi
  have e2 : sumN (fun k => sumN (nth (nthR (findT c x) k)) c.rooms.length) (needsC c).length = sumN (perNeed (findX c x).giv) (needsC c).length := sumN_congr fun k hkl => by
    rw [find_row hk hx (by omega)]; exact sumN_congr fun i hi => findT_at hkl hi
  rw [e1, e2]; omega
theorem find_most {c : Col} (hk : fitErr c = 0) : (findX c 361).all = (ratsC c).2 := by
  have ok := okCol_of (fit_parts hk).1
  rw [rats_more ok]
  have f := (find_whole hk (show (0 : Int) ≤ 361 by decide)).1
  rw [← show (needsC c ++ [((361 : Int), ((unionN (leftC c) : Nat) : Int))]).length = (needsC c).length + 1 by simp] at f
  exact f.cut
theorem find_least {c : Col} (hk : fitErr c = 0) : (findX c 0).all = (ratsC c).1 := by
  have ok := okCol_of (fit_parts hk).1
  obtain ⟨f, w⟩ := find_whole hk (Int.le_refl 0)
  rw [f.all, show (needsC c ++ [((0 : Int), ((unionN (leftC c) : Nat) : Int))]).length = (needsC c).length + 1 by simp, sumN_succ]
  have e1 : sumN (perNeed (findX c 0).giv) (needsC c).length = totC c := sumN_congr fun k hkl => w k hkl
  have e2 : perNeed (findX c 0).giv (needsC c).length = 0 := by
    have a := f.most (needsC c).length (by omega)
    have b : rats (needsC c ++ [((0 : Int), ((unionN (leftC c) : Nat) : Int))]) (needsC c).length = 0 := by
      unfold rats; rw [nthP_app, if_neg (Nat.lt_irrefl _), if_pos rfl]
    have d : 0 ≤ perNeed (findX c 0).giv (needsC c).length := sumN_nonneg fun i hi => (find_good hk (Int.le_refl 0)).giv _ i (by omega) hi
    omega
  rw [e1, e2, Int.add_zero]
  show totC c = (fitX c).all
  exact (fit_all hk).symm
end Go.Proofs.Ytnhifinfjfpoiaa

namespace Go.Proofs.Ytnhifinfjfpoiaa
open Go.RowKit
set_option linter.unusedVariables false
set_option linter.unusedSimpArgs false

theorem four_at {W : World} {p t : Nat} {a b c d : Value} (h : W.heap[p]? = some (.cells #[a, b, c, d] t (0, 0))) : W.cell? ⟨p, 0, none⟩ = some a ∧ W.cell? ⟨p, 1, none⟩ = some b ∧ W.cell? ⟨p, 2, none⟩ = some c ∧ W.cell? ⟨p, 3, none⟩ = some d :=
  ⟨(cell_of_row _ _ 0 _ _ _ h).trans rfl, (cell_of_row _ _ 1 _ _ _ h).trans rfl, (cell_of_row _ _ 2 _ _ _ h).trans rfl, (cell_of_row _ _ 3 _ _ _ h).trans rfl⟩
set_option maxRecDepth 100000 in
set_option maxHeartbeats 1000000 in
theorem clone_any (xs : List Int) (v : Value) (w : World) (h : IsInts w w.heap.size v xs) (h100 : xs.length ≤ 100) (h0 : 0 < xs.length) :
    Calls Try.prog 130 #[v] w fun e w' => ∃ g q, e = .returned (.slice (some ⟨g, 0, none⟩) xs.length q) ∧ w'.ownsRow w.heap.size 3 1 (.slice (some ⟨g, 0, none⟩) xs.length q) xs.length (intsV xs) ∧ Below w.heap.size w w' ∧ g < w'.heap.size := by
  obtain ⟨a, c, rfl, _, _, h3⟩ := h.open
  obtain ⟨i0, hi, hz0, hz1, hz2⟩ := info_parts infoInt
  have H3 := Lib.hid h3
  clear h h3
  obtain ⟨b, off, rfl, hb, _⟩ := H3.out 0 h0
  have heq := fun W => run_eql_slice_nil (P := Try.prog) W 22 3 (some ⟨b, off, none⟩) xs.length c Try.underlying22
  have hisn : Option.isNone (some (⟨b, off, none⟩ : Addr)) = false := rfl
  go_enter Try.func130, Try.ntmps130
  go_wp2_with (at_builtin; refine wpList_append_lies _ rfl _ _ 22 rfl w.heap.size 3 i0 (.int .i64 0) 1 8 Try.underlying22 hi hz0 hz1 hz2 rfl (by decide) _ _ _ rfl (World.ownsRow_made w #[] 0 (Nat.le_refl _) (Nat.zero_le _) rfl) ⟨b, off, none⟩ xs.length c (intsV xs) rfl ?qc1 ?qc2 ?qc3 h0 ?qc4 ?qc5 ?qc6 (w.heap.size + 1) (by simp) ?_)
  case qc1 => simp [intsV]
  case qc2 =>
    intro j u hj
    have hjn : j < xs.length := by
      have := (List.getElem?_eq_some_iff.1 hj).1
      simpa [intsV] using this
    obtain ⟨b', off', e', _, hcell⟩ := H3.out j hjn
    cases e'
    rw [Addr.add_lit]
    refine Lib.cell?_alloc_some _ ?_
    rw [hcell, ← hj]
    simp [intsV, nth, hjn]
  case qc3 => intro u hu; obtain ⟨x, _, rfl⟩ := List.mem_map.1 hu; rfl
  case qc4 => unfold maxLen; omega
  case qc5 => omega
  case qc6 => simp
  intro g q w1 hown hgrow hat hlt
  have HO := Lib.hid hown; have HG := Lib.hid hgrow
  clear hown hgrow hat hlt
  go_wp2_with fail
  go_ret
  refine ⟨g, q, rfl, HO.out, ?_, (HO.out.lt g rfl).2⟩
  exact ((Below.refl _ w).alloc (Nat.le_refl _) _).grown HG.out (by simp) (by intro k hk; simp [Value.ownBlock] at hk; omega)

theorem sumN_step {f : Nat → Int} {b : Int} {n : Nat} (h : ∀ i, i < n → 0 ≤ f i ∧ f i ≤ b) : ∀ k, k ≤ n → 0 ≤ sumN f k ∧ sumN f k ≤ b * k := fun k hk =>
  ⟨sumN_nonneg fun i hi => (h i (by omega)).1, sumN_bound fun i hi => (h i (by omega)).2⟩

set_option maxRecDepth 100000 in
set_option maxHeartbeats 1000000 in
/-- The sum of a list of numbers. -/
theorem sum_any (xs : List Int) (v : Value) (w : World) (h : IsInts w w.heap.size v xs) (h100 : xs.length ≤ 100) (hb : ∀ i, i < xs.length → 0 ≤ nth xs i ∧ nth xs i ≤ 1000) :
    Calls Try.prog 112 #[v] w fun e w' => e = .returned (.int .i64 (sumN (nth xs) xs.length)) ∧ w = w' := by
  obtain ⟨a, c, rfl, _, _, h3⟩ := h.open
  have H3 := Lib.hid h3
  have HB := Lib.hid hb
  clear h h3 hb
  go_enter Try.func112, Try.ntmps112
  go_wp2_with fail
  go_loopw [3, 8] (fun v i wr => ∃ k : Nat, k ≤ xs.length ∧ i = .int .i64 k ∧ v = .int .i64 (sumN (nth xs) k) ∧ wr = w) (fun _ i _ => xs.length - (intOf i).toNat)
  case atStart => exact ⟨0, Nat.zero_le _, rfl, rfl, rfl⟩
  case round =>
    obtain ⟨k, hk, rfl, rfl, rfl⟩ := hrel
    have hs := sumN_step HB.out k hk
    by_cases hlt : k < xs.length
    · have hki : (k : Int) < xs.length := by omega
      obtain ⟨b, off, rfl, hbl, hcell⟩ := H3.out k hlt
      have hx := HB.out k hlt
      go_wp2_with fail
      go_roundw
      case rel => exact ⟨k + 1, by omega, by go_num, by rw [sumN_succ], by simp⟩
      case measure => simp [intOf]; omega
    · obtain rfl : k = xs.length := by omega
      go_wp2_with fail
      go_ret
      exact ⟨rfl, rfl⟩

set_option maxRecDepth 100000 in
set_option maxHeartbeats 1000000 in
/-- How many rats a truth has: those that are left, and those of each row. -/
theorem count_any (T : List (List Int)) (L : List Int) (n : Nat) (tv lv : Value) (w : World) (ht : IsRows w w.heap.size tv T) (hl : IsInts w w.heap.size lv L) (hT : T.length ≤ 100) (hL : L.length = n) (hn : n ≤ 100)
    (hrow : ∀ k, k < T.length → (nthR T k).length = n) (hbl : ∀ h, h < n → 0 ≤ nth L h ∧ nth L h ≤ 1000) (hbt : ∀ k h, k < T.length → h < n → 0 ≤ nth (nthR T k) h ∧ nth (nthR T k) h ≤ 1000) :
    Calls Try.prog 69 #[.agg #[tv, lv]] w fun e w' => e = .returned (.int .i64 (countT T L n T.length)) ∧ Below w.heap.size w w' := by
  subst hL
  obtain ⟨at_, ct, rfl, _, _, t3⟩ := ht.open
  obtain ⟨al, cl, rfl, _, _, l3⟩ := hl.open
  have hBW := (Below.refl w.heap.size w).alloc (Nat.le_refl _) (.cells #[.slice at_ T.length ct, .slice al L.length cl] 55)
  have c0 : (w.alloc (.cells #[.slice at_ T.length ct, .slice al L.length cl] 55)).cell? ⟨w.heap.size, 0, none⟩ = some (.slice at_ T.length ct) := by simp [go_sem]
  have c1 : (w.alloc (.cells #[.slice at_ T.length ct, .slice al L.length cl] 55)).cell? ⟨w.heap.size, 1, none⟩ = some (.slice al L.length cl) := by simp [go_sem]
  have T3 := Lib.hid t3; have L3 := Lib.hid l3; have HBL := Lib.hid hbl; have HBT := Lib.hid hbt; have HROW := Lib.hid hrow; have HB := Lib.hid hBW
  clear ht hl t3 l3 hbl hbt hrow hBW
  go_enter Try.func69, Try.ntmps69
  go_wp2_with fail
  obtain ⟨W1, hW1⟩ : ∃ W1, w.alloc (.cells #[.slice at_ T.length ct, .slice al L.length cl] 55) = W1 := ⟨_, rfl⟩
  rw [hW1] at c0 c1 HB ⊢
  clear hW1
  go_loopw [3, 13] (fun v i wr => ∃ k : Nat, k ≤ L.length ∧ i = .int .i64 k ∧ v = .int .i64 (sumN (nth L) k) ∧ W1 = wr) (fun _ i _ => L.length - (intOf i).toNat)
  case atStart => exact ⟨0, Nat.zero_le _, rfl, rfl, rfl⟩
  case round =>
    obtain ⟨k, hk, rfl, rfl, rfl⟩ := hrel
    have hs := sumN_step HBL.out k hk
    by_cases hlt : k < L.length
    · have hki : (k : Int) < L.length := by omega
      obtain ⟨b, off, rfl, hbl, hcell⟩ := L3.out k hlt
      have hc := (HB.out.cell (p := ⟨b, off + k, none⟩) hbl).trans hcell
      have hx := HBL.out k hlt
      clear hcell
      go_wp2_with fail
      go_roundw
      case rel => exact ⟨k + 1, by omega, by go_num, by rw [sumN_succ], by simp⟩
      case measure => simp [intOf]; omega
    · obtain rfl : k = L.length := by omega
      go_wp2_with fail
      go_loopw [3, 24] (fun v i wr => ∃ k : Nat, k ≤ T.length ∧ i = .int .i64 k ∧ v = .int .i64 (sumN (nth L) L.length + sumN (fun k => sumN (nth (nthR T k)) L.length) k) ∧ W1 = wr) (fun _ i _ => T.length - (intOf i).toNat)
      case atStart => exact ⟨0, Nat.zero_le _, rfl, by simp [sumN], rfl⟩
      case round =>
        obtain ⟨k, hk, rfl, rfl, rfl⟩ := hrel
        have hs2 : ∀ j, j < T.length → 0 ≤ sumN (nth (nthR T j)) L.length ∧ sumN (nth (nthR T j)) L.length ≤ 100000 := fun j hj => by
          have := sumN_step (fun h hh => HBT.out j h hj hh) L.length (Nat.le_refl _); omega
        have hs3 := sumN_step hs2 k hk
        by_cases hlt : k < T.length
        · have hki : (k : Int) < T.length := by omega
          obtain ⟨b, off, u, rfl, hbl, hcell, hru⟩ := T3.out k hlt
          obtain ⟨ar, cr, rfl, _, _, r3⟩ := hru.open
          have hc := (HB.out.cell (p := ⟨b, off + k, none⟩) hbl).trans hcell
          have hln := HROW.out k hlt
          rw [hln] at hc r3
          have R3 := Lib.hid r3
          obtain ⟨S, hS⟩ : ∃ S, sumN (fun k => sumN (nth (nthR T k)) L.length) k = S := ⟨_, rfl⟩
          obtain ⟨S0, hS0⟩ : ∃ S, sumN (nth L) L.length = S := ⟨_, rfl⟩
          rw [hS] at hs3 ⊢
          rw [hS0] at hs ⊢
          have HSS := Lib.hid (And.intro hS hS0)
          clear hcell hru r3 hln hs2 hS hS0
          go_wp2_with fail
          go_loopw [3, 30] (fun v i wr => ∃ j : Nat, j ≤ L.length ∧ i = .int .i64 j ∧ v = .int .i64 (S0 + S + sumN (nth (nthR T k)) j) ∧ W1 = wr) (fun _ i _ => L.length - (intOf i).toNat)
          case atStart => exact ⟨0, Nat.zero_le _, rfl, by simp [sumN], rfl⟩
          case round =>
            obtain ⟨j, hj, rfl, rfl, rfl⟩ := hrel
            have hs4 := sumN_step (fun h hh => HBT.out k h hlt hh) j hj
            by_cases hjl : j < L.length
            · have hji : (j : Int) < L.length := by omega
              obtain ⟨b2, off2, rfl, hbl2, hcell2⟩ := R3.out j hjl
              have hc2 := (HB.out.cell (p := ⟨b2, off2 + j, none⟩) hbl2).trans hcell2
              have hx := HBT.out k j hlt hjl
              clear hcell2
              go_wp2_with fail
              go_roundw
              case rel => exact ⟨j + 1, by omega, by go_num, by rw [sumN_succ, Int.add_assoc (S0 + S)], by simp⟩
              case measure => simp [intOf]; omega
            · obtain rfl : j = L.length := by omega
              go_wp2_with fail
              go_roundw
              case rel => exact ⟨k + 1, by omega, by go_num, by rw [sumN_succ, ← HSS.out.1, ← HSS.out.2, Int.add_assoc], by simp⟩
              case measure => simp [intOf]; omega
        · obtain rfl : k = T.length := by omega
          go_wp2_with fail
          go_ret
          exact ⟨rfl, HB.out⟩
end Go.Proofs.Ytnhifinfjfpoiaa

namespace Go.Proofs.Ytnhifinfjfpoiaa
open Go.RowKit
set_option linter.unusedVariables false
set_option linter.unusedSimpArgs false

theorem fits1_any (a : Option Addr) (n cap m bx : Nat) (w : World) (hn : n ≤ 140737488355328) (hc : w.cell? ⟨bx, 0, none⟩ = some (.int .i64 m)) :
    Calls Try.prog 131 #[.slice a n cap, .pointer (some ⟨bx, 0, none⟩)] w fun e w' => e = .returned (.bool ((n : Int) == (m : Int))) ∧ w = w' := by
  go_enter Try.func131, Try.ntmps131
  go_wp2
  go_ret
  exact ⟨rfl, rfl⟩

/-- Block g: rooms, of which the first n are looked at. -/
def RoomAt (w : World) (g n q : Nat) (rm : Nat → Int) : Prop :=
  ∃ A : Array Value, w.heap[g]? = some (.cells A 3 (0, 0)) ∧ n ≤ A.size ∧ n ≤ q ∧ ∀ j, j < n → A[j]? = some (.int .i64 (rm j))
theorem RoomAt.cell {w : World} {g n q : Nat} {rm : Nat → Int} (h : RoomAt w g n q rm) {j : Nat} (hj : j < n) : w.cell? ⟨g, j, none⟩ = some (.int .i64 (rm j)) := by
  obtain ⟨A, h1, h2, _, h3⟩ := h
  exact (cell_of_row w g _ _ _ _ h1).trans (h3 j hj)
theorem RoomAt.free {w : World} {g n q : Nat} {rm : Nat → Int} (h : RoomAt w g n q rm) (j : Nat) : w.frozen? ⟨g, j, none⟩ = false := by
  obtain ⟨A, h1, _, _⟩ := h
  exact frozen_of_row w g _ _ _ h1
theorem RoomAt.lt {w : World} {g n q : Nat} {rm : Nat → Int} (h : RoomAt w g n q rm) : g < w.heap.size := by
  obtain ⟨A, h1, _, _⟩ := h
  exact (Array.getElem?_eq_some_iff.1 h1).1
theorem RoomAt.set {w : World} {g n q : Nat} {rm : Nat → Int} (h : RoomAt w g n q rm) {k : Nat} (x : Int) (hk : k < n) : RoomAt (w.setCell ⟨g, k, none⟩ (.int .i64 x)) g n q (fun j => if j = k then x else rm j) := by
  obtain ⟨A, h1, h2, h4, h3⟩ := h
  refine ⟨A.setIfInBounds k (.int .i64 x), heap_setCell_same w g _ _ _ _ h1, by simp [h2], h4, fun j hj => ?_⟩
  rw [Array.getElem?_setIfInBounds]
  by_cases e : j = k
  · subst e; simp; omega
  · rw [if_neg (fun h => e h.symm)]
    show A[j]? = some (.int .i64 (if j = k then x else rm j))
    rw [if_neg e]; exact h3 j hj
theorem RoomAt.same {w : World} {g n q : Nat} {rm rm' : Nat → Int} (h : RoomAt w g n q rm) (e : ∀ j, j < n → rm j = rm' j) : RoomAt w g n q rm' := by
  obtain ⟨A, h1, h2, h4, h3⟩ := h
  exact ⟨A, h1, h2, h4, fun j hj => by rw [← e j hj]; exact h3 j hj⟩
theorem RoomAt.below {w w' : World} {g n q B : Nat} {rm : Nat → Int} (h : RoomAt w g n q rm) (hb : Below B w w') (hB : w.heap.size ≤ B) : RoomAt w' g n q rm := by
  obtain ⟨A, h1, h2⟩ := h
  exact ⟨A, (hb.block g (Nat.lt_of_lt_of_le (Array.getElem?_eq_some_iff.1 h1).1 hB)).trans h1, h2⟩
theorem RoomAt.of_owns {w : World} {b g n q : Nat} {l : List Int} (h : w.ownsRow b 3 1 (.slice (some ⟨g, 0, none⟩) n q) n (intsV l)) (hl : l.length = n) : RoomAt w g n q (nth l) := by
  obtain ⟨_, h | ⟨g', cap, cur, e, _, hg, hn, hm, hs, ht⟩⟩ := h
  · cases h.1
  · cases e
    refine ⟨cur, hg, by omega, hn, fun j hj => ?_⟩
    rw [Nat.mul_one] at ht
    have h1 : (List.take n cur.toList)[j]? = (intsV l)[j]? := by rw [ht]
    rw [List.getElem?_take, if_pos hj, Array.getElem?_toList] at h1
    rw [h1]
    simp [intsV, nth, hl, hj]

theorem IsRows.on {w w' : World} {v : Value} {xs : List (List Int)} (h : IsRows w w.heap.size v xs) (hb : Below w.heap.size w w') : IsRows w' w'.heap.size v xs := (h.below hb (Nat.le_refl _)).mono hb.size
theorem owns_ne {w : World} {B e sz n m cap : Nat} {b off : Nat} {xs : List Value} (h : w.ownsRow B e sz (.slice (some ⟨b, off, none⟩) m cap) n xs) : B ≤ b := by
  rcases h.2 with ⟨hc, _⟩ | ⟨g, c, cur, hc, hB, _⟩
  · cases hc
  · cases hc; exact hB
/-- May so many rats have come from a house with so much room? -/
def takeOk (l : List Int) (rm : Nat → Int) (f j : Nat) : Prop := 0 ≤ nth l j ∧ nth l j ≤ rm j ∧ (0 < nth l j → f.testBit j = true)
def TakesP (l : List Int) (rm : Nat → Int) (f n g q : Nat) (w : World) (e : Ending) (w' : World) : Prop :=
  ((∀ j, j < n → takeOk l rm f j) → e = .returned (.bool true) ∧ RoomAt w' g n q (fun j => rm j - nth l j)) ∧ ((∃ j, j < n ∧ ¬ takeOk l rm f j) → e = .returned (.bool false)) ∧ Kept g g g w w'

set_option maxRecDepth 100000 in
set_option maxHeartbeats 2000000 in
theorem takes_any (l : List Int) (lv : Value) (f : Nat) (bx g n q B : Nat) (rm : Nat → Int) (w : World) (hl : IsInts w B lv l) (hB : B ≤ g) (hn : l.length = n) (h6 : n ≤ 6) (hf : f < 64) (hbx : bx ≠ g) (hq : n ≤ 140737488355328)
    (hbox : w.cell? ⟨bx, 0, none⟩ = some (.slice (some ⟨g, 0, none⟩) n q)) (hr : RoomAt w g n q rm) (hrm : ∀ j, j < n → 0 ≤ rm j ∧ rm j ≤ 60) :
    Calls Try.prog 132 #[lv, .int .i64 f, .pointer (some ⟨bx, 0, none⟩)] w (TakesP l rm f n g q w) := by
  subst hn
  obtain ⟨al, cl, rfl, _, _, l3⟩ := hl.open
  have hI := hl.2
  have hblt : bx < w.heap.size := block_lt_of_cell hbox
  have hqn : l.length ≤ q := by obtain ⟨A, _, _, h, _⟩ := hr; exact h
  have L3 := Lib.hid l3; have HI := Lib.hid hI; have HR := Lib.hid hr; have HRM := Lib.hid hrm; have HBX := Lib.hid (And.intro hbox (And.intro hbx hblt))
  have hbB : ∀ b, b < B → b < w.heap.size ∧ b ≠ g := fun b hb => ⟨by have := hr.lt; omega, by omega⟩
  have HBB := Lib.hid hbB
  clear hl l3 hI hr hrm hbox hblt hbx hbB
  go_enter Try.func132, Try.ntmps132
  go_wp2_with fail
  go_loopw [10] (fun i wr => ∃ k : Nat, k ≤ l.length ∧ i = .int .i64 k ∧ Hid ((∀ j, j < k → takeOk l rm f j) ∧ RoomAt wr g l.length q (fun j => if j < k then rm j - nth l j else rm j) ∧ Kept g g g w wr)) (fun i _ => l.length - (intOf i).toNat)
  case atStart => exact ⟨0, Nat.zero_le _, rfl, fun j hj => (by omega), HR.out.same (fun j _ => by simp), Kept.refl _ _ _ _⟩
  case round =>
    obtain ⟨k, hk, rfl, HQ⟩ := hrel
    have b1 : wr.cell? ⟨bx, 0, none⟩ = some (.slice (some ⟨g, 0, none⟩) l.length q) := (HQ.out.2.2.cell (p := ⟨bx, 0, none⟩) HBX.out.2.2 HBX.out.2.1 HBX.out.2.1 HBX.out.2.1).trans HBX.out.1
    by_cases hlt : k < l.length
    · have hki : (k : Int) < l.length := by omega
      have hk6 : k < 6 := by omega
      obtain ⟨b, off, rfl, hbl, hcell⟩ := L3.out k hlt
      have hbb := HBB.out b hbl
      have m1 := (HQ.out.2.2.cell (p := ⟨b, off + k, none⟩) hbb.1 hbb.2 hbb.2 hbb.2).trans hcell
      have m2 := HQ.out.2.1.cell hlt
      have m3 := HQ.out.2.1.free k
      rw [if_neg (Nat.lt_irrefl k)] at m2
      have hx := HI.out _ (nth_mem hlt)
      have hr := HRM.out k hlt
      have hok : takeOk l rm f k ↔ (0 ≤ nth l k ∧ nth l k ≤ rm k ∧ (0 < nth l k → f.testBit k = true)) := Iff.rfl
      have HO := Lib.hid hok
      have hx1 := hx.1; have hx2 := hx.2
      clear hcell hbb hx hok
      by_cases t1 : nth l k < 0
      · have hno : ¬ takeOk l rm f k := fun h => by have := (HO.out.1 h).1; omega
        have HNO := Lib.hid hno
        clear hno
        go_wp2_with fail
        go_ret
        exact ⟨fun h => absurd (h k hlt) HNO.out, fun _ => rfl, HQ.out.2.2⟩
      by_cases t2 : rm k < nth l k
      · have hno : ¬ takeOk l rm f k := fun h => by have := (HO.out.1 h).2.1; omega
        have HNO := Lib.hid hno
        clear hno
        go_wp2_with fail
        go_ret
        exact ⟨fun h => absurd (h k hlt) HNO.out, fun _ => rfl, HQ.out.2.2⟩
      have hnew : takeOk l rm f k → (∀ j, j < k + 1 → takeOk l rm f j) ∧ RoomAt (wr.setCell ⟨g, k, none⟩ (.int .i64 (rm k - nth l k))) g l.length q (fun j => if j < k + 1 then rm j - nth l j else rm j) ∧ Kept g g g w (wr.setCell ⟨g, k, none⟩ (.int .i64 (rm k - nth l k))) := fun h => by
        refine ⟨fun j hj => ?_, (HQ.out.2.1.set (rm k - nth l k) hlt).same fun j hj => ?_, HQ.out.2.2.set _ _ (.inl rfl)⟩
        · by_cases e : j = k
          · rw [e]; exact h
          · exact HQ.out.1 j (by omega)
        · by_cases e : j = k
          · subst e; simp
          · rw [if_neg e]
            by_cases e2 : j < k
            · rw [if_pos e2, if_pos (by omega)]
            · rw [if_neg e2, if_neg (by omega)]
      have HN := Lib.hid hnew
      clear hnew
      by_cases t3 : 0 < nth l k
      · cases hb : f.testBit k
        · have hno : ¬ takeOk l rm f k := fun h => by have := (HO.out.1 h).2.2 t3; rw [hb] at this; cases this
          have HNO := Lib.hid hno
          have HBI := Lib.hid hb
          clear hno hb
          go_wp2_with (go_at_call 125; refine (has_as HBI.out hf hk6 k rfl _).mono ?_; rintro e w' ⟨rfl, rfl⟩)
          go_ret
          exact ⟨fun h => absurd (h k hlt) HNO.out, fun _ => rfl, HQ.out.2.2⟩
        · have HNN := Lib.hid (HN.out (HO.out.2 ⟨by omega, by omega, fun _ => hb⟩))
          have HBI := Lib.hid hb
          clear hb
          go_wp2_with (go_at_call 125; refine (has_as HBI.out hf hk6 k rfl _).mono ?_; rintro e w' ⟨rfl, rfl⟩)
          go_roundw
          case rel => exact ⟨k + 1, by omega, by go_num, HNN.out⟩
          case measure => simp [intOf]; omega
      · have HNN := Lib.hid (HN.out (HO.out.2 ⟨by omega, by omega, fun h => absurd h t3⟩))
        go_wp2_with fail
        go_roundw
        case rel => exact ⟨k + 1, by omega, by go_num, HNN.out⟩
        case measure => simp [intOf]; omega
    · obtain rfl : k = l.length := by omega
      go_wp2_with fail
      go_ret
      refine ⟨fun _ => ⟨rfl, HQ.out.2.1.same fun j hj => by rw [if_pos hj]⟩, fun ⟨j, hj, hno⟩ => absurd (HQ.out.1 j hj) hno, HQ.out.2.2⟩
end Go.Proofs.Ytnhifinfjfpoiaa

namespace Go.Proofs.Ytnhifinfjfpoiaa
open Go.RowKit
set_option linter.unusedVariables false

def rmTo (c : Col) (T : List (List Int)) (k j : Nat) : Int := nth c.rooms j - sumN (fun i => nth (nthR T i) j) k
def rowOk (c : Col) (T : List (List Int)) (k : Nat) : Prop := (∀ j, j < c.rooms.length → takeOk (nthR T k) (rmTo c T k) (frm (needsC c) k) j) ∧ sumN (nth (nthR T k)) c.rooms.length = (nthP (needsC c) k).1
def fitsErr (c : Col) (T : List (List Int)) (L : List Int) : Int :=
  if checkC c = 0 then (if T.length = c.rooms.length * c.nights.length ∧ L.length = c.rooms.length ∧ allB (fun i => (nthR T i).length == c.rooms.length) T.length = true then 0 else 3) else checkC c
theorem fitsErr_cases (c : Col) (T : List (List Int)) (L : List Int) :
    (¬ checkC c = 0 ∧ fitsErr c T L = checkC c) ∨ (checkC c = 0 ∧ ¬ T.length = c.rooms.length * c.nights.length ∧ fitsErr c T L = 3) ∨ (checkC c = 0 ∧ T.length = c.rooms.length * c.nights.length ∧ ¬ L.length = c.rooms.length ∧ fitsErr c T L = 3) ∨
    (checkC c = 0 ∧ T.length = c.rooms.length * c.nights.length ∧ L.length = c.rooms.length ∧ allB (fun i => (nthR T i).length == c.rooms.length) T.length = false ∧ fitsErr c T L = 3) ∨
    (checkC c = 0 ∧ T.length = c.rooms.length * c.nights.length ∧ L.length = c.rooms.length ∧ allB (fun i => (nthR T i).length == c.rooms.length) T.length = true ∧ fitsErr c T L = 0) := by
  unfold fitsErr
  by_cases q : checkC c = 0
  · by_cases q1 : T.length = c.rooms.length * c.nights.length
    · by_cases q2 : L.length = c.rooms.length
      · cases q3 : allB (fun i => (nthR T i).length == c.rooms.length) T.length
        · exact .inr (.inr (.inr (.inl ⟨q, q1, q2, rfl, by rw [if_pos q, if_neg (fun h => by cases h.2.2)]⟩)))
        · exact .inr (.inr (.inr (.inr ⟨q, q1, q2, rfl, by rw [if_pos q, if_pos ⟨q1, q2, rfl⟩]⟩)))
      · exact .inr (.inr (.inl ⟨q, q1, q2, by rw [if_pos q, if_neg (fun h => q2 h.2.1)]⟩))
    · exact .inr (.inl ⟨q, q1, by rw [if_pos q, if_neg (fun h => q1 h.1)]⟩)
  · exact .inl ⟨q, by rw [if_neg q]⟩
theorem needsC_mul (c : Col) : (needsC c).length = c.rooms.length * c.nights.length := by unfold needsC; rw [needsUp_len, Nat.mul_comm]

theorem sumN_mono {f : Nat → Int} {k : Nat} : ∀ {n : Nat}, k ≤ n → (∀ i, i < n → 0 ≤ f i) → sumN f k ≤ sumN f n
  | 0, h, _ => by have : k = 0 := by omega
                  subst this; exact Int.le_refl _
  | n + 1, h, hf => by
    by_cases e : k = n + 1
    · subst e; exact Int.le_refl _
    · have := sumN_mono (k := k) (n := n) (by omega) (fun i hi => hf i (by omega))
      have := hf n (by omega)
      rw [sumN_succ]; omega
theorem rmTo_bounds {c : Col} (ok : OkCol c) {T : List (List Int)} {k : Nat} (h : ∀ i, i < k → rowOk c T i) : ∀ j, j < c.rooms.length → 0 ≤ rmTo c T k j ∧ rmTo c T k j ≤ 60 := by
  intro j hj
  have hr := ok.rooms6 j (by have := ok.houses.2; omega)
  induction k with
  | zero => unfold rmTo sumN; omega
  | succ k ih =>
    have h1 := ih (fun i hi => h i (by omega))
    have h2 := (h k (by omega)).1 j hj
    unfold takeOk at h2
    unfold rmTo at *
    rw [sumN_succ]
    omega
theorem fits_yes {c : Col} {T : List (List Int)} {L : List Int} (h : ∀ i, i < (needsC c).length → rowOk c T i) (hl : ∀ j, j < c.rooms.length → takeOk L (rmTo c T (needsC c).length) (unionN (leftC c)) j) : FitsP c T L := by
  refine ⟨fun k hk j hj => ?_, fun k hk => (h k hk).2, fun j hj => ?_, fun j hj => ?_⟩
  · have := (h k hk).1 j hj; exact ⟨this.1, this.2.2⟩
  · have := hl j hj; exact ⟨this.1, this.2.2⟩
  · have := (hl j hj).2.1
    unfold rmTo at this; omega
theorem fits_no_row {c : Col} {T : List (List Int)} {L : List Int} {k : Nat} (hk : k < (needsC c).length) (h : ∃ j, j < c.rooms.length ∧ ¬ takeOk (nthR T k) (rmTo c T k) (frm (needsC c) k) j) : ¬ FitsP c T L := by
  intro f
  obtain ⟨j, hj, hno⟩ := h
  refine hno ⟨(f.cell k hk j hj).1, ?_, (f.cell k hk j hj).2⟩
  have h1 := f.col j hj
  have h2 := (f.left j hj).1
  have h3 := sumN_mono (f := fun i => nth (nthR T i) j) (k := k + 1) (n := (needsC c).length) (by omega) (fun i hi => (f.cell i hi j hj).1)
  rw [sumN_succ] at h3
  unfold rmTo; omega
theorem fits_no_left {c : Col} {T : List (List Int)} {L : List Int} (h : ∃ j, j < c.rooms.length ∧ ¬ takeOk L (rmTo c T (needsC c).length) (unionN (leftC c)) j) : ¬ FitsP c T L := by
  intro f
  obtain ⟨j, hj, hno⟩ := h
  refine hno ⟨(f.left j hj).1, ?_, (f.left j hj).2⟩
  have h1 := f.col j hj
  unfold rmTo; omega
end Go.Proofs.Ytnhifinfjfpoiaa

namespace Go.Proofs.Ytnhifinfjfpoiaa
open Go.RowKit
set_option linter.unusedVariables false
set_option linter.unusedSimpArgs false
attribute [local go_sem] Oper.semAt_some

theorem truth_at {W : World} {p t : Nat} {a b : Value} (h : W.heap[p]? = some (.cells #[a, b] t (0, 0))) : W.cell? ⟨p, 0, none⟩ = some a ∧ W.cell? ⟨p, 1, none⟩ = some b :=
  ⟨(cell_of_row _ _ 0 _ _ _ h).trans rfl, (cell_of_row _ _ 1 _ _ _ h).trans rfl⟩

/-- Do all rows have so many numbers? -/
theorem every_rows {W : World} {T : List (List Int)} {a : Option Addr} {q : Nat} (h : IsRows W W.heap.size (.slice a T.length q) T) (bx n : Nat) (hc : W.cell? ⟨bx, 0, none⟩ = some (.int .i64 n)) :
    Calls Try.prog 79 #[.slice a T.length q, .func (.func 131) #[] #[.pointer (some ⟨bx, 0, none⟩)]] W fun e w' => e = .returned (.bool (allB (fun i => (nthR T i).length == n) T.length)) ∧ Below W.heap.size W w' := by
  obtain ⟨fT, hsT, hrT⟩ := h
  have hbl := block_lt_of_cell hc
  refine everyRows_any (.slice a T.length q) T.length 131 #[.pointer (some ⟨bx, 0, none⟩)] (fun i => (nthR T i).length == n) fT W hsT ⟨Try.call131, fun i hi w' hw' hB => ?_⟩
  have hbx := (hw'.cell (p := ⟨bx, 0, none⟩) hbl).trans hc
  obtain ⟨a', cap, hv, q1, q2, _⟩ := (hrT i hi).open
  show Calls _ _ (#[fT i] ++ _) _ _
  rw [hv]
  refine (fits1_any a' _ cap n bx w' q2 hbx).mono ?_
  rintro e w'' ⟨rfl, rfl⟩
  exact ⟨ret_bool (by rw [Bool.eq_iff_iff]; simp; omega), Below.refl _ _⟩

set_option maxRecDepth 100000 in
set_option maxHeartbeats 4000000 in
theorem Fits_bad (c : Col) (r t u n tv lv : Value) (T : List (List Int)) (L : List Int) (w : World) (hc : ColAt w w.heap.size r t u n c) (ht : IsRows w w.heap.size tv T) (hl : IsInts w w.heap.size lv L) (hk : ¬ fitsErr c T L = 0) :
    Calls Try.prog 72 #[.agg #[r, t, u, n], .agg #[tv, lv]] w fun e w' => e = .returned (.tuple #[.bool false, .int .i64 (fitsErr c T L)]) ∧ Below w.heap.size w w' := by
  have hBW : Below w.heap.size w ((w.alloc (.cells #[r, t, u, n] 26)).alloc (.cells #[tv, lv] 55)) := ((Below.refl w.heap.size w).alloc (Nat.le_refl _) _).alloc (by simp) _
  have hcA := hc.on hBW
  have hx : ((w.alloc (.cells #[r, t, u, n] 26)).alloc (.cells #[tv, lv] 55)).heap[w.heap.size]? = some (.cells #[r, t, u, n] 26 (0, 0)) := keep _ (blk _ _ _ _ rfl)
  have hy : ((w.alloc (.cells #[r, t, u, n] 26)).alloc (.cells #[tv, lv] 55)).heap[w.heap.size + 1]? = some (.cells #[tv, lv] 55 (0, 0)) := blk _ _ _ _ (by simp)
  obtain ⟨hr, htr, hu, hn⟩ := hc
  obtain ⟨ar, cr, rfl, _⟩ := hr.open
  obtain ⟨at_, ct, rfl, _⟩ := htr.open
  obtain ⟨au, cu, rfl, _⟩ := hu.open
  obtain ⟨an, cn, rfl, _⟩ := hn.open
  obtain ⟨aT, qT, rfl, _, T140, _⟩ := ht.open
  obtain ⟨aL, qL, rfl, _, L140, _⟩ := hl.open
  have HB := Lib.hid hBW; have HX := Lib.hid hx; have HY := Lib.hid hy; have HC := Lib.hid hcA; have HT := Lib.hid ht; have HK := Lib.hid hk
  clear hr htr hu hn hl ht hBW hx hy hcA hk
  rcases fitsErr_cases c T L with ⟨q, e⟩ | ⟨q, q1, e⟩ | ⟨q, q1, q2, e⟩ | ⟨q, q1, q2, q3, e⟩ | ⟨q, q1, q2, q3, e⟩
  · rw [e]
    have HCK := Lib.hid (opened_bad c _ _ _ _ _ HC.out q)
    have hk1 : (checkC c == 0) = false := by simpa using q
    have hk2 : (checkC c != 0) = true := by simp [bne, hk1]
    have hblk := HX.out
    clear q e HK
    go_enter Try.func72, Try.ntmps72
    go_wp2_with fail
    refine HCK.out.mono ?_
    rintro e w1 ⟨rfl, hb1⟩
    obtain ⟨x0, x1, x2, x3⟩ := four_at (blk_on HX.out hb1)
    have H1 := Lib.hid hb1
    clear hb1 hblk
    go_wp2_with fail
    go_ret2
    exact ⟨rfl, (HB.out.trans (H1.out.mono HB.out.size)).alloc (Nat.le_trans HB.out.size H1.out.size) _⟩
  · rw [e]
    have HCK := Lib.hid (opened_ok c _ _ _ _ _ HC.out q)
    have ok := okCol_of q
    have o1 := ok.houses.1; have o2 := ok.houses.2; have o3 := ok.nights
    obtain ⟨M, hM⟩ : ∃ M : Nat, c.rooms.length * c.nights.length = M := ⟨_, rfl⟩
    have hmul : (c.rooms.length : Int) * (c.nights.length : Int) = (M : Int) := by rw [← hM]; simp
    have hM36 : M ≤ 36 := by rw [← hM]; exact Nat.mul_le_mul o2 o3
    rw [hM] at q1
    have d1 : ((T.length : Int) != (M : Int)) = true := by simp; omega
    have d2 : (T.length != M) = true := by simpa using q1
    clear q e HK q1 hM ok
    go_enter Try.func72, Try.ntmps72
    go_wp2_with fail
    refine HCK.out.mono ?_
    rintro e w1 ⟨p, rfl, hb1, hd⟩
    obtain ⟨x0, x1, x2, x3⟩ := four_at (keep (.cells #[.int .i64 c.rooms.length] 3) (blk_on HX.out hb1))
    obtain ⟨y0, y1⟩ := truth_at (keep (.cells #[.int .i64 c.rooms.length] 3) (blk_on HY.out hb1))
    obtain ⟨z0, z1, z2, z3⟩ := four_at (blk_on HX.out hb1)
    have H1 := Lib.hid hb1
    clear hb1 hd
    go_wp2_with fail
    go_ret2
    exact ⟨rfl, (HB.out.trans (H1.out.mono HB.out.size)).alloc (Nat.le_trans HB.out.size H1.out.size) _⟩
  · rw [e]
    have HCK := Lib.hid (opened_ok c _ _ _ _ _ HC.out q)
    have ok := okCol_of q
    have o1 := ok.houses.1; have o2 := ok.houses.2; have o3 := ok.nights
    obtain ⟨M, hM⟩ : ∃ M : Nat, c.rooms.length * c.nights.length = M := ⟨_, rfl⟩
    have hmul : (c.rooms.length : Int) * (c.nights.length : Int) = (M : Int) := by rw [← hM]; simp
    have hM36 : M ≤ 36 := by rw [← hM]; exact Nat.mul_le_mul o2 o3
    rw [hM] at q1
    have d1 : ((T.length : Int) != (M : Int)) = false := by simp; omega
    have d2 : (T.length != M) = false := by simpa using q1
    have d3 : ((L.length : Int) != (c.rooms.length : Int)) = true := by simp; omega
    have d4 : (L.length != c.rooms.length) = true := by simpa using q2
    clear q e HK q1 q2 hM ok
    go_enter Try.func72, Try.ntmps72
    go_wp2_with fail
    refine HCK.out.mono ?_
    rintro e w1 ⟨p, rfl, hb1, hd⟩
    obtain ⟨x0, x1, x2, x3⟩ := four_at (keep (.cells #[.int .i64 c.rooms.length] 3) (blk_on HX.out hb1))
    obtain ⟨y0, y1⟩ := truth_at (keep (.cells #[.int .i64 c.rooms.length] 3) (blk_on HY.out hb1))
    obtain ⟨z0, z1, z2, z3⟩ := four_at (blk_on HX.out hb1)
    have H1 := Lib.hid hb1
    clear hb1 hd
    go_wp2_with fail
    go_ret2
    exact ⟨rfl, (HB.out.trans (H1.out.mono HB.out.size)).alloc (Nat.le_trans HB.out.size H1.out.size) _⟩
  · rw [e]
    have HCK := Lib.hid (opened_ok c _ _ _ _ _ HC.out q)
    have ok := okCol_of q
    have o1 := ok.houses.1; have o2 := ok.houses.2; have o3 := ok.nights
    obtain ⟨M, hM⟩ : ∃ M : Nat, c.rooms.length * c.nights.length = M := ⟨_, rfl⟩
    have hmul : (c.rooms.length : Int) * (c.nights.length : Int) = (M : Int) := by rw [← hM]; simp
    have hM36 : M ≤ 36 := by rw [← hM]; exact Nat.mul_le_mul o2 o3
    rw [hM] at q1
    have HQ3 := Lib.hid q3
    have d1 : ((T.length : Int) != (M : Int)) = false := by simp; omega
    have d2 : (T.length != M) = false := by simpa using q1
    have d3 : ((L.length : Int) != (c.rooms.length : Int)) = false := by simp; omega
    have d4 : (L.length != c.rooms.length) = false := by simpa using q2
    clear q e HK q1 q2 q3 hM ok
    go_enter Try.func72, Try.ntmps72
    go_wp2_with fail
    refine HCK.out.mono ?_
    rintro e w1 ⟨p, rfl, hb1, hd⟩
    obtain ⟨x0, x1, x2, x3⟩ := four_at (keep (.cells #[.int .i64 c.rooms.length] 3) (blk_on HX.out hb1))
    obtain ⟨y0, y1⟩ := truth_at (keep (.cells #[.int .i64 c.rooms.length] 3) (blk_on HY.out hb1))
    obtain ⟨z0, z1, z2, z3⟩ := four_at (blk_on HX.out hb1)
    have hw1 : Below w.heap.size w (w1.alloc (.cells #[.int .i64 c.rooms.length] 3)) := (HB.out.trans (hb1.mono HB.out.size)).alloc (Nat.le_trans HB.out.size hb1.size) _
    have hevery := every_rows (HT.out.on hw1) w1.heap.size c.rooms.length (by simp [go_sem])
    rw [HQ3.out] at hevery
    have HEV := Lib.hid hevery
    have H1 := Lib.hid hw1
    clear hb1 hd hevery hw1
    go_wp2_with fail
    refine HEV.out.mono ?_
    rintro e w2 ⟨rfl, hb2⟩
    go_wp2_with fail
    go_ret2
    exact ⟨rfl, H1.out.trans (hb2.mono H1.out.size)⟩
  · exact absurd e HK.out
end Go.Proofs.Ytnhifinfjfpoiaa

namespace Go.Proofs.Ytnhifinfjfpoiaa
open Go.RowKit
set_option linter.unusedVariables false
set_option linter.unusedSimpArgs false
attribute [local go_sem] Oper.semAt_some

theorem IsInts.kept {w w' : World} {g B : Nat} {v : Value} {xs : List Int} (h : IsInts w B v xs) (hk : Kept g g g w w') (hg : B ≤ g) (hB : B ≤ w.heap.size) : IsInts w' B v xs := by
  obtain ⟨⟨a, cap, hv, h1, h2, h3⟩, h4⟩ := h
  refine ⟨⟨a, cap, hv, h1, h2, ?_⟩, h4⟩
  rcases h3 with h3 | ⟨b, off, ha, hlt, hc⟩
  · exact .inl h3
  · refine .inr ⟨b, off, ha, hlt, fun j hj => ?_⟩
    have hne : b ≠ g := by omega
    exact (hk.cell (p := ⟨b, off + j, none⟩) (Nat.lt_of_lt_of_le hlt hB) hne hne hne).trans (hc j hj)
abbrev BoxF (g : Nat) (W7 : World) (pt b o nb : Nat) (tv rv : Value) (x f : Int) (W : World) : Prop :=
  W.cell? ⟨pt, 0, none⟩ = some tv ∧ W.cell? ⟨b, o, none⟩ = some rv ∧ W.cell? ⟨nb, 0, none⟩ = some (.int .i64 x) ∧ W.cell? ⟨nb, 1, none⟩ = some (.int .i64 f) ∧ Hid (Kept g g g W7 W)
theorem BoxF.of {g : Nat} {W7 W : World} {pt b o nb : Nat} {tv rv : Value} {x f : Int} (h0 : W7.cell? ⟨pt, 0, none⟩ = some tv) (h1 : W7.cell? ⟨b, o, none⟩ = some rv) (h2 : W7.cell? ⟨nb, 0, none⟩ = some (.int .i64 x)) (h3 : W7.cell? ⟨nb, 1, none⟩ = some (.int .i64 f))
    (n0 : pt ≠ g) (n1 : b ≠ g) (n2 : nb ≠ g) (hk : Kept g g g W7 W) : BoxF g W7 pt b o nb tv rv x f W :=
  ⟨(hk.cell (p := ⟨pt, 0, none⟩) (block_lt_of_cell h0) n0 n0 n0).trans h0, (hk.cell (p := ⟨b, o, none⟩) (block_lt_of_cell h1) n1 n1 n1).trans h1, (hk.cell (p := ⟨nb, 0, none⟩) (block_lt_of_cell h2) n2 n2 n2).trans h2, (hk.cell (p := ⟨nb, 1, none⟩) (block_lt_of_cell h3) n2 n2 n2).trans h3, hk⟩
theorem row_cases (l : List Int) (rm : Nat → Int) (f n : Nat) : (∀ j, j < n → takeOk l rm f j) ∨ ∃ j, j < n ∧ ¬ takeOk l rm f j := by
  by_cases h : ∃ j, j < n ∧ ¬ takeOk l rm f j
  · exact .inr h
  · exact .inl fun j hj => Classical.byContradiction fun hc => h ⟨j, hj, hc⟩

set_option maxRecDepth 100000 in
set_option maxHeartbeats 8000000 in
theorem Fits_ok (c : Col) (r t u n tv lv : Value) (T : List (List Int)) (L : List Int) (w : World) (hc : ColAt w w.heap.size r t u n c) (ht : IsRows w w.heap.size tv T) (hl : IsInts w w.heap.size lv L) (hk : fitsErr c T L = 0) :
    Calls Try.prog 72 #[.agg #[r, t, u, n], .agg #[tv, lv]] w fun e w' => ∃ b, e = .returned (.tuple #[.bool b, .int .i64 0]) ∧ (b = true ↔ FitsP c T L) ∧ Below w.heap.size w w' := by
  have hBW : Below w.heap.size w ((w.alloc (.cells #[r, t, u, n] 26)).alloc (.cells #[tv, lv] 55)) := ((Below.refl w.heap.size w).alloc (Nat.le_refl _) _).alloc (by simp) _
  have hcA := hc.on hBW
  have hx : ((w.alloc (.cells #[r, t, u, n] 26)).alloc (.cells #[tv, lv] 55)).heap[w.heap.size]? = some (.cells #[r, t, u, n] 26 (0, 0)) := keep _ (blk _ _ _ _ rfl)
  have hy : ((w.alloc (.cells #[r, t, u, n] 26)).alloc (.cells #[tv, lv] 55)).heap[w.heap.size + 1]? = some (.cells #[tv, lv] 55 (0, 0)) := blk _ _ _ _ (by simp)
  obtain ⟨hr, htr, hu, hn⟩ := hc
  have HRI := Lib.hid hr
  obtain ⟨ar, cr, rfl, _⟩ := hr.open
  obtain ⟨at_, ct, rfl, _⟩ := htr.open
  obtain ⟨au, cu, rfl, _⟩ := hu.open
  obtain ⟨an, cn, rfl, _⟩ := hn.open
  obtain ⟨aT, qT, rfl, _, T140, T3⟩ := ht.open
  obtain ⟨aL, qL, rfl, _, L140, _⟩ := hl.open
  have HB := Lib.hid hBW; have HX := Lib.hid hx; have HY := Lib.hid hy; have HC := Lib.hid hcA; have HT := Lib.hid ht; have HL := Lib.hid hl; have HT3 := Lib.hid T3
  clear hr htr hu hn hl ht hBW hx hy hcA T3
  rcases fitsErr_cases c T L with ⟨q, e⟩ | ⟨q, q1, e⟩ | ⟨q, q1, q2, e⟩ | ⟨q, q1, q2, q3, e⟩ | ⟨q, q1, q2, q3, e⟩
  · exact absurd (e.symm.trans hk) q
  · exact absurd (e.symm.trans hk) (by decide)
  · exact absurd (e.symm.trans hk) (by decide)
  · exact absurd (e.symm.trans hk) (by decide)
  · have HCK := Lib.hid (opened_ok c _ _ _ _ _ HC.out q)
    have ok := okCol_of q
    have o1 := ok.houses.1; have o2 := ok.houses.2; have o3 := ok.nights
    obtain ⟨M, hM⟩ : ∃ M : Nat, c.rooms.length * c.nights.length = M := ⟨_, rfl⟩
    have hmul : (c.rooms.length : Int) * (c.nights.length : Int) = (M : Int) := by rw [← hM]; simp
    have hM36 : M ≤ 36 := by rw [← hM]; exact Nat.mul_le_mul o2 o3
    have hKM : (needsC c).length = M := by rw [needsC_mul, hM]
    rw [hM] at q1
    have d1 : ((T.length : Int) != (M : Int)) = false := by simp; omega
    have d2 : (T.length != M) = false := by simpa using q1
    have d3 : ((L.length : Int) != (c.rooms.length : Int)) = false := by simp; omega
    have d4 : (L.length != c.rooms.length) = false := by simpa using q2
    have HQ3 := Lib.hid q3
    have HOK := Lib.hid ok
    have HTM := Lib.hid (And.intro q1 q2)
    have HKM := Lib.hid hKM
    clear q e hk q1 q2 q3 hM ok hKM
    go_enter Try.func72, Try.ntmps72
    go_wp2_with fail
    refine HCK.out.mono ?_
    rintro e w1 ⟨p, rfl, hb1, hd⟩
    obtain ⟨x0, x1, x2, x3⟩ := four_at (keep (.cells #[.int .i64 c.rooms.length] 3) (blk_on HX.out hb1))
    obtain ⟨y0, y1⟩ := truth_at (keep (.cells #[.int .i64 c.rooms.length] 3) (blk_on HY.out hb1))
    obtain ⟨z0, z1, z2, z3⟩ := four_at (blk_on HX.out hb1)
    have hw1 : Below w.heap.size w (w1.alloc (.cells #[.int .i64 c.rooms.length] 3)) := (HB.out.trans (hb1.mono HB.out.size)).alloc (Nat.le_trans HB.out.size hb1.size) _
    have hevery := every_rows (HT.out.on hw1) w1.heap.size c.rooms.length (by simp [go_sem])
    rw [HQ3.out] at hevery
    have HEV := Lib.hid hevery
    have H1 := Lib.hid (And.intro hw1 (And.intro hb1 hd))
    clear hb1 hd hevery hw1
    go_wp2_with fail
    refine HEV.out.mono ?_
    rintro e w2 ⟨rfl, hb2⟩
    have hb12 : Below w1.heap.size w1 w2 := ((Below.refl _ _).alloc (Nat.le_refl _) _).trans (hb2.mono (by simp))
    have hw2 : Below w.heap.size w w2 := H1.out.1.trans (hb2.mono H1.out.1.size)
    have hx2 := blk_on (blk_on HX.out H1.out.2.1) hb12
    have hy2 := blk_on (blk_on HY.out H1.out.2.1) hb12
    have H2 := Lib.hid (And.intro hw2 (And.intro hb12 (And.intro (H1.out.2.2.below hb12) (And.intro hx2 hy2))))
    clear x0 x1 x2 x3 y0 y1 z0 z1 z2 z3 hb2 hb12 hw2 hx2 hy2 HEV HCK
    obtain ⟨x0, x1, x2, x3⟩ := four_at H2.out.2.2.2.1
    have HCL := Lib.hid (clone_any c.rooms _ w2 (HRI.out.on H2.out.1) (by omega) (by omega))
    go_wp2_with fail
    refine HCL.out.mono ?_
    rintro e w3 ⟨g, qg, rfl, hown, hb3, hg3⟩
    have hroom := RoomAt.of_owns hown rfl
    have hgge : w2.heap.size ≤ g := (hown.lt g rfl).1
    have hb34 : Below w2.heap.size w2 (w3.alloc (.cells #[.slice (some ⟨g, 0, none⟩) c.rooms.length qg] 22)) := hb3.alloc hb3.size _
    have HCA := Lib.hid (caught_any c p _ (H2.out.2.2.1.below hb34))
    have hroom4 := hroom.below ((Below.refl w3.heap.size w3).alloc (Nat.le_refl _) (.cells #[.slice (some ⟨g, 0, none⟩) c.rooms.length qg] 22)) (Nat.le_refl _)
    have hbox4 : (w3.alloc (.cells #[.slice (some ⟨g, 0, none⟩) c.rooms.length qg] 22)).heap[w3.heap.size]? = some (.cells #[.slice (some ⟨g, 0, none⟩) c.rooms.length qg] 22 (0, 0)) := heap_alloc_new _ _
    have hgb : g ≠ w3.heap.size := by omega
    have H4 := Lib.hid (And.intro hb34 (And.intro hroom4 (And.intro hbox4 (And.intro hgge (And.intro hgb hg3)))))
    clear hown hb3 hg3 hroom hgge hb34 hroom4 hbox4 hgb HCL x0 x1 x2 x3
    go_wp2_with (go_at_call 113; refine HCA.out.mono ?_; rintro e w5 ⟨v, rfl, hown5, hb5⟩; obtain ⟨a5, q5, rfl⟩ := owns_slice hown5; have H5 := Lib.hid (And.intro hown5 hb5); clear hown5 hb5)
    have hn5 := pairs_of_owns H5.out.1 (needsC_i64 HOK.out) (by have := needsC_len HOK.out; omega)
    obtain ⟨a5', q5', e5, _, _, n3⟩ := hn5.open
    cases e5
    have hfin : Below w.heap.size w w5 := by
      have h1 := H2.out.1
      have h2 := h1.trans (H4.out.1.mono h1.size)
      exact h2.trans (H5.out.2.mono h2.size)
    have hg5 : g < w5.heap.size := by have := H5.out.2.size; have := H4.out.2.2.2.2.2; simp at *; omega
    have hroom5 := H4.out.2.1.below H5.out.2 (Nat.le_refl _)
    have hbox5 := blk_on H4.out.2.2.1 H5.out.2
    have hb25 : Below w2.heap.size w2 w5 := H4.out.1.trans (H5.out.2.mono H4.out.1.size)
    have hy5 := blk_on H2.out.2.2.2.2 hb25
    have hN3 : ∀ i, i < (needsC c).length → ∃ b off, a5 = some ⟨b, off, none⟩ ∧ b < w5.heap.size ∧ b ≠ g ∧ w5.cell? ⟨b, off + i * 2, none⟩ = some (.int .i64 (nthP (needsC c) i).1) ∧ w5.cell? ⟨b, off + i * 2 + 1, none⟩ = some (.int .i64 (nthP (needsC c) i).2) := fun i hi => by
      obtain ⟨b, off, ha, h1, h2, h3⟩ := n3 i hi
      subst ha
      have := owns_ne H5.out.1
      have := H4.out.2.2.2.2.2
      exact ⟨b, off, rfl, h1, by simp at *; omega, h2, h3⟩
    have HN3 := Lib.hid hN3
    have HF := Lib.hid (And.intro hfin (And.intro hg5 (And.intro hroom5 (And.intro hbox5 (And.intro hb25 hy5)))))
    have hgw : w2.heap.size ≤ g := H4.out.2.2.2.1
    have hg3 : g ≠ w3.heap.size := H4.out.2.2.2.2.1
    have hs12 := H2.out.2.1.size
    have hy2 := (Array.getElem?_eq_some_iff.1 H2.out.2.2.2.2).1
    have hws := H2.out.1.size
    have hw25 := hb25.size
    have HGS := Lib.hid (And.intro hgw (And.intro hg3 (And.intro hs12 (And.intro hy2 (And.intro hws hw25)))))
    rw [HKM.out]
    clear hn5 n3 hfin hg5 hroom5 hbox5 hb25 hN3 hy5 hgw hg3 hs12 hy2 hws hw25
    go_loopw [56] (fun i wr => ∃ k : Nat, k ≤ M ∧ i = .int .i64 k ∧ Hid ((∀ j, j < k → rowOk c T j) ∧ RoomAt wr g c.rooms.length qg (rmTo c T k) ∧ Kept g g g w5 wr)) (fun i _ => M - (intOf i).toNat)
    case atStart => exact ⟨0, Nat.zero_le _, rfl, fun j hj => (by omega), HF.out.2.2.1.same (fun j hj => by simp [rmTo, sumN]), Kept.refl _ _ _ _⟩
    case round =>
      obtain ⟨k, hk, rfl, HR⟩ := hrel
      obtain ⟨hgw, hg3, hs12, hy2, hws, hw25⟩ := HGS.out
      have hny : w.heap.size + 1 ≠ g := by omega
      have HLG : Hid (w.heap.size ≤ g) := Lib.hid (Nat.le_trans hws hgw)
      have hry : wr.heap[w.heap.size + 1]? = some (.cells #[.slice aT T.length qT, .slice aL L.length qL] 55 (0, 0)) := (HR.out.2.2.block _ (by omega) hny hny hny).trans HF.out.2.2.2.2.2
      have hrb := (HR.out.2.2.block _ (by have := (Array.getElem?_eq_some_iff.1 HF.out.2.2.2.1).1; exact this) hg3.symm hg3.symm hg3.symm).trans HF.out.2.2.2.1
      have hbwr : Below w2.heap.size w2 wr := HF.out.2.2.2.2.1.trans (HR.out.2.2.below hw25 hgw hgw hgw)
      have hT := HT.out.on H2.out.1
      have hwwr : Below w.heap.size w wr := H2.out.1.trans (hbwr.mono hws)
      by_cases hlt : k < M
      · have hki : (k : Int) < M := by omega
        have hkT : k < T.length := by rw [HTM.out.1]; exact hlt
        have hkTi : (k : Int) < T.length := by omega
        have hkK : k < (needsC c).length := by rw [HKM.out]; exact hlt
        obtain ⟨bn, offn, rfl, hbn, hbg, m1, m2⟩ := HN3.out k hkK
        have d5 := (HR.out.2.2.cell (p := ⟨bn, offn + k * 2, none⟩) hbn hbg hbg hbg).trans m1
        have d6 := (HR.out.2.2.cell (p := ⟨bn, offn + k * 2 + 1, none⟩) hbn hbg hbg hbg).trans m2
        obtain ⟨f1, f2⟩ := needs_frm o2 k hkK
        rw [f1] at d6
        obtain ⟨F, hF⟩ : ∃ F, frm (needsC c) k = F := ⟨_, rfl⟩
        obtain ⟨R, hR⟩ : ∃ R, (nthP (needsC c) k).1 = R := ⟨_, rfl⟩
        rw [hF] at d6 f2
        rw [hR] at d5
        obtain ⟨bT, oT, uT, rfl, hbT, m3, hrow⟩ := HT3.out k hkT
        have hlen : (nthR T k).length = c.rooms.length := by have := allB_iff.1 HQ3.out k hkT; simpa using this
        obtain ⟨aR, qR, e6, _, _, _⟩ := hrow.open
        rw [hlen] at e6
        subst e6
        have m3' := (hwwr.cell (p := ⟨bT, oT + k, none⟩) hbT).trans m3
        have hrow2 := hrow.on H2.out.1
        have hrowr : IsInts wr w2.heap.size (.slice aR c.rooms.length qR) (nthR T k) := hrow2.below hbwr (Nat.le_refl _)
        obtain ⟨W7, hW7⟩ : ∃ W7, wr.alloc (.cells #[.int .i64 R, .int .i64 F] 154) = W7 := ⟨_, rfl⟩
        have hk7 : Kept g g g wr W7 := by rw [← hW7]; exact Kept.of ((Below.refl _ _).alloc (Nat.le_refl _) _)
        have hb7 : Below wr.heap.size wr W7 := by rw [← hW7]; exact (Below.refl _ _).alloc (Nat.le_refl _) _
        have hn7 : W7.heap[wr.heap.size]? = some (.cells #[.int .i64 R, .int .i64 F] 154 (0, 0)) := by rw [← hW7]; exact heap_alloc_new _ _
        have hroom7 := HR.out.2.1.below hb7 (Nat.le_refl _)
        have hrm := rmTo_bounds HOK.out HR.out.1
        have hgr : g < wr.heap.size := HR.out.2.1.lt
        obtain ⟨t0, t1⟩ := truth_at (blk_on hry hb7)
        have t2 := (hb7.cell (p := ⟨bT, oT + k, none⟩) (Nat.lt_of_lt_of_le hbT hwwr.size)).trans m3'
        obtain ⟨t3, t4⟩ := truth_at hn7
        have t5 := (cell_of_row W7 _ 0 _ _ _ (blk_on hrb hb7)).trans rfl
        have hnb : wr.heap.size ≠ g := by omega
        have hnT : bT ≠ g := by omega
        have HPQ : Hid (∀ W, Hid (Kept g g g W7 W) → BoxF g W7 (w.heap.size + 1) bT (oT + k) wr.heap.size (.slice (some ⟨bT, oT, none⟩) T.length qT) (.slice aR c.rooms.length qR) R F W) := fun W h => BoxF.of t0 t2 t3 t4 hny hnT hnb h.out
        have hP : W7.drew.cell? ⟨w.heap.size + 1, 0, none⟩ = some (.slice (some ⟨bT, oT, none⟩) T.length qT) ∧ W7.drew.cell? ⟨bT, oT + k, none⟩ = some (.slice aR c.rooms.length qR) ∧ W7.drew.cell? ⟨wr.heap.size, 0, none⟩ = some (.int .i64 R) ∧ W7.drew.cell? ⟨wr.heap.size, 1, none⟩ = some (.int .i64 F) ∧ Hid (Kept g g g W7 W7.drew) := HPQ.out _ (Kept.refl _ _ _ _).drew
        have hrow7 : IsInts W7.drew w2.heap.size (.slice aR c.rooms.length qR) (nthR T k) := (hrowr.below hb7 (by have := hbwr.size; omega)).kept (Kept.refl g g g W7).drew hgw (by have := hbwr.size; have := hb7.size; omega)
        have htk := takes_any (nthR T k) (.slice aR c.rooms.length qR) F w3.heap.size g c.rooms.length qg w2.heap.size (rmTo c T k) W7.drew hrow7 hgw hlen o2 f2 hg3.symm (by omega) t5 hroom7 hrm
        have HTK := Lib.hid htk
        have hrk : rowOk c T k ↔ ((∀ j, j < c.rooms.length → takeOk (nthR T k) (rmTo c T k) F j) ∧ sumN (nth (nthR T k)) c.rooms.length = R) := by unfold rowOk; rw [hF, hR]
        have HRK := Lib.hid hrk
        have hFT := fits_no_row (c := c) (T := T) (L := L) hkK
        rw [hF] at hFT
        have HFT := Lib.hid hFT
        have hRT : FitsP c T L → sumN (nth (nthR T k)) c.rooms.length = R := fun h => by rw [← hR]; exact h.row k hkK
        have HRT := Lib.hid hRT
        have HSZ := Lib.hid (And.intro hwwr (And.intro hk7 (And.intro hrowr (And.intro hb7 hbwr))))
        have HLE := Lib.hid hlen
        have HRM := Lib.hid hrm
        rcases row_cases (nthR T k) (rmTo c T k) F c.rooms.length with hall | hno
        · have hsb : ∀ i, i < (nthR T k).length → 0 ≤ nth (nthR T k) i ∧ nth (nthR T k) i ≤ 1000 := fun i hi => by
            rw [hlen] at hi
            have h1 := hall i hi
            have h2 := hrm i hi
            exact ⟨h1.1, by have := h1.2.1; omega⟩
          have HSM : Hid (∀ W, Hid (Kept g g g W7 W) → Calls Try.prog 112 #[.slice aR c.rooms.length qR] W fun e w' => e = .returned (.int .i64 (sumN (nth (nthR T k)) c.rooms.length)) ∧ W = w') := fun W h => by
            have h1 := (hrowr.below hb7 (by have := hbwr.size; omega)).kept h.out hgw (by have := hbwr.size; have := hb7.size; omega)
            have h2 := sum_any (nthR T k) _ W (h1.mono (by have := h.out.size; have := hbwr.size; have := hb7.size; omega)) (by omega) hsb
            rw [hlen] at h2; exact h2
          have HALL := Lib.hid hall
          have HT1 : Hid (Calls Try.prog 132 #[.slice aR c.rooms.length qR, .int .i64 F, .pointer (some ⟨w3.heap.size, 0, none⟩)] W7.drew fun e w' => e = .returned (.bool true) ∧ Hid (RoomAt w' g c.rooms.length qg (fun j => rmTo c T k j - nth (nthR T k) j)) ∧ Hid (Kept g g g W7 w')) := HTK.out.mono fun e w' h => ⟨(h.1 HALL.out).1, (h.1 HALL.out).2, (Kept.refl g g g W7).drew.trans h.2.2⟩
          obtain ⟨S, hS⟩ : ∃ S, sumN (nth (nthR T k)) c.rooms.length = S := ⟨_, rfl⟩
          have HS := Lib.hid hS
          rw [hS] at HSM
          clear hgw hg3 hs12 hy2 hws hw25 hny hry hrb hbwr hT hwwr m1 m2 m3 f1 f2 hF hR hrow hlen m3' hrow2 hrowr hk7 hb7 hn7 hroom7 hrm hgr t0 t1 t2 t3 t4 t5 hnb hnT hrow7 htk hrk hFT hRT hall hsb hS HTK
          go_upto_region 12 with (fail)
          clear hW7 d5 d6
          go_region_held3 (fun w' => w'.cell? ⟨w.heap.size + 1, 0, none⟩ = some (.slice (some ⟨bT, oT, none⟩) T.length qT) ∧ w'.cell? ⟨bT, oT + k, none⟩ = some (.slice aR c.rooms.length qR) ∧ w'.cell? ⟨wr.heap.size, 0, none⟩ = some (.int .i64 R) ∧ w'.cell? ⟨wr.heap.size, 1, none⟩ = some (.int .i64 F) ∧ Hid (Kept g g g W7 w')) (first | with_reducible assumption | with_reducible exact HPQ.out _ hk8 | fail) (first | (go_at_call 132; (with_reducible refine HT1.out.mono ?_); rintro e w8 ⟨rfl, hr8, hk8⟩) | (go_at_call 112; (with_reducible refine (HSM.out _ hk8).mono ?_); rintro e w9 ⟨rfl, rfl⟩) | fail)
          have HAF := Lib.hid (And.intro hr8 hk8)
          clear hr8 hk8 hP HPQ HSM HT1
          by_cases hSR : S = R
          · have g1 : (S != R) = false := by simpa using hSR
            have HSR := Lib.hid (HS.out.trans hSR)
            clear hSR
            go_wp2_with fail
            go_roundw
            case rel =>
              refine ⟨k + 1, by omega, by go_num, fun j hj => ?_, HAF.out.1.same fun j hj => ?_, HR.out.2.2.trans (HSZ.out.2.1.trans HAF.out.2)⟩
              · by_cases ej : j = k
                · rw [ej]; exact HRK.out.2 ⟨HALL.out, HSR.out⟩
                · exact HR.out.1 j (by omega)
              · unfold rmTo; rw [sumN_succ]; omega
            case measure => simp [intOf]; omega
          · have g1 : (S != R) = true := by simpa using hSR
            have HSR := Lib.hid (fun h : sumN (nth (nthR T k)) c.rooms.length = R => hSR (HS.out.symm.trans h))
            clear hSR
            have HKB := Lib.hid (HSZ.out.1.trans ((HSZ.out.2.1.trans HAF.out.2).below HSZ.out.1.size HLG.out HLG.out HLG.out))
            go_wp2_with fail
            go_ret2
            exact ⟨false, rfl, ⟨fun h => (by cases h), fun h => absurd (HRT.out h) HSR.out⟩, HKB.out⟩
        · have HT1 : Hid (Calls Try.prog 132 #[.slice aR c.rooms.length qR, .int .i64 F, .pointer (some ⟨w3.heap.size, 0, none⟩)] W7.drew fun e w' => e = .returned (.bool false) ∧ Hid (Kept g g g W7 w')) := HTK.out.mono fun e w' h => ⟨h.2.1 hno, (Kept.refl g g g W7).drew.trans h.2.2⟩
          have HNF := Lib.hid (HFT.out hno)
          clear hgw hg3 hs12 hy2 hws hw25 hny hry hrb hbwr hT hwwr m1 m2 m3 f1 f2 hF hR hrow hlen m3' hrow2 hrowr hk7 hb7 hn7 hroom7 hrm hgr t0 t1 t2 t3 t4 t5 hnb hnT hrow7 htk hrk hFT hRT hno HTK
          go_upto_region 12 with (fail)
          clear hW7 d5 d6
          refine wp_region_noPanic ?_
          refine wp_region_held_drew (S := (fun w' => w'.cell? ⟨w.heap.size + 1, 0, none⟩ = some (.slice (some ⟨bT, oT, none⟩) T.length qT) ∧ w'.cell? ⟨bT, oT + k, none⟩ = some (.slice aR c.rooms.length qR) ∧ w'.cell? ⟨wr.heap.size, 0, none⟩ = some (.int .i64 R) ∧ w'.cell? ⟨wr.heap.size, 1, none⟩ = some (.int .i64 F) ∧ Hid (Kept g g g W7 w'))) (by kernel_rfl) hP (fun hHeld => ?_)
          refine takeH (i := 0) (d := 61) (v := ?_) rfl rfl (by kernel_rfl) (by kernel_rfl) (by kernel_rfl) (fun _ _ _ _ _ h => h) (by rfl) ?_ (by assumption) ?_
          rotate_left
          · intro w hSw
            (try dsimp only at hSw)
            go_simp
            try with_reducible rfl
          (try simp only [Act.put, List.setIfInBounds_toArray, List.set_cons_zero, List.set_cons_succ])
          refine takeH (i := 1) (d := 62) (v := ?_) rfl rfl (by kernel_rfl) (by kernel_rfl) (by kernel_rfl) (fun _ _ _ _ _ h => h) (by rfl) ?_ (by assumption) ?_
          rotate_left
          · intro w hSw
            (try dsimp only at hSw)
            go_simp
            try with_reducible rfl
          (try simp only [Act.put, List.setIfInBounds_toArray, List.set_cons_zero, List.set_cons_succ])
          refine takeH (i := 2) (d := 63) (v := ?_) rfl rfl (by kernel_rfl) (by kernel_rfl) (by kernel_rfl) (fun _ _ _ _ _ h => h) (by rfl) ?_ (by assumption) ?_
          rotate_left
          · intro w hSw
            (try dsimp only at hSw)
            go_simp
            try with_reducible rfl
          (try simp only [Act.put, List.setIfInBounds_toArray, List.set_cons_zero, List.set_cons_succ])
          refine takeH (i := 3) (d := 64) (v := ?_) rfl rfl (by kernel_rfl) (by kernel_rfl) (by kernel_rfl) (fun _ _ _ _ _ h => h) (by rfl) ?_ (by assumption) ?_
          rotate_left
          · intro w hSw
            (try dsimp only at hSw)
            go_simp
            try with_reducible rfl
          (try simp only [Act.put, List.setIfInBounds_toArray, List.set_cons_zero, List.set_cons_succ])
          refine takeH (i := 4) (d := 65) (v := ?_) rfl rfl (by kernel_rfl) (by kernel_rfl) (by kernel_rfl) (fun _ _ _ _ _ h => h) (by rfl) ?_ (by assumption) ?_
          rotate_left
          · intro w hSw
            (try dsimp only at hSw)
            go_simp
            try with_reducible rfl
          (try simp only [Act.put, List.setIfInBounds_toArray, List.set_cons_zero, List.set_cons_succ])
          refine takeH (i := 5) (d := 66) (v := ?_) rfl rfl (by kernel_rfl) (by kernel_rfl) (by kernel_rfl) (fun _ _ _ _ _ h => h) (by rfl) ?_ (by assumption) ?_
          rotate_left
          · intro w hSw
            (try dsimp only at hSw)
            go_simp
            try with_reducible rfl
          (try simp only [Act.put, List.setIfInBounds_toArray, List.set_cons_zero, List.set_cons_succ])
          refine takeH (i := 6) (d := 67) (v := ?_) rfl rfl (by kernel_rfl) (by kernel_rfl) (by kernel_rfl) (fun _ _ _ _ _ h => h) (by rfl) ?_ (by assumption) ?_
          rotate_left
          · intro w hSw
            (try dsimp only at hSw)
            go_simp
            try with_reducible rfl
          (try simp only [Act.put, List.setIfInBounds_toArray, List.set_cons_zero, List.set_cons_succ])
          refine takeH (i := 7) (d := 68) (v := ?_) rfl rfl (by kernel_rfl) (by kernel_rfl) (by kernel_rfl) (fun _ _ _ _ _ h => h) (by rfl) ?_ (by assumption) ?_
          rotate_left
          · intro w hSw
            (try dsimp only at hSw)
            go_simp
            try with_reducible rfl
          (try simp only [Act.put, List.setIfInBounds_toArray, List.set_cons_zero, List.set_cons_succ])
          refine wpAnyH_ready (rs := [8]) (by kernel_rfl) (by simp) ?_
          refine AllReadyH.cons rfl (fun K hK => ?_) AllReadyH.nil
          go_simp
          go_at_call 132
          refine HT1.out.mono ?_
          rintro e w8 ⟨rfl, hk8⟩
          go_simp
          refine hK.out _ _ (HPQ.out _ hk8) (fun hHeld => ?_)
          clear hK K
          (try simp only [Act.put, List.setIfInBounds_toArray, List.set_cons_zero, List.set_cons_succ])
          refine takeH (i := 9) (d := 70) (v := ?_) rfl rfl (by kernel_rfl) (by kernel_rfl) (by kernel_rfl) (fun _ _ _ _ _ h => h) (by rfl) ?_ (by assumption) ?_
          rotate_left
          · intro w hSw
            (try dsimp only at hSw)
            go_simp
            try with_reducible rfl
          (try simp only [Act.put, List.setIfInBounds_toArray, List.set_cons_zero, List.set_cons_succ])
          refine takeH (i := 10) (d := 71) (v := ?_) rfl rfl (by kernel_rfl) (by kernel_rfl) (by kernel_rfl) (fun _ _ _ _ _ h => h) (by rfl) ?_ (by assumption) ?_
          rotate_left
          · intro w hSw
            (try dsimp only at hSw)
            go_simp
            try with_reducible rfl
          (try simp only [Act.put, List.setIfInBounds_toArray, List.set_cons_zero, List.set_cons_succ])
          refine skipH (i := 11) (d := 72) rfl rfl (by kernel_rfl) (by kernel_rfl) (by kernel_rfl) (fun _ _ _ _ _ h => h) (by rfl) (by assumption) ?_
          (try simp only [Act.put, List.setIfInBounds_toArray, List.set_cons_zero, List.set_cons_succ])
          refine skipH (i := 12) (d := 73) rfl rfl (by kernel_rfl) (by kernel_rfl) (by kernel_rfl) (fun _ _ _ _ _ h => h) (by rfl) (by assumption) ?_
          (try simp only [Act.put, List.setIfInBounds_toArray, List.set_cons_zero, List.set_cons_succ])
          refine skipH (i := 13) (d := 74) rfl rfl (by kernel_rfl) (by kernel_rfl) (by kernel_rfl) (fun _ _ _ _ _ h => h) (by rfl) (by assumption) ?_
          (try simp only [Act.put, List.setIfInBounds_toArray, List.set_cons_zero, List.set_cons_succ])
          refine skipH (i := 14) (d := 75) rfl rfl (by kernel_rfl) (by kernel_rfl) (by kernel_rfl) (fun _ _ _ _ _ h => h) (by rfl) (by assumption) ?_
          (try simp only [Act.put, List.setIfInBounds_toArray, List.set_cons_zero, List.set_cons_succ])
          refine skipH (i := 15) (d := 76) rfl rfl (by kernel_rfl) (by kernel_rfl) (by kernel_rfl) (fun _ _ _ _ _ h => h) (by rfl) (by assumption) ?_
          (try simp only [Act.put, List.setIfInBounds_toArray, List.set_cons_zero, List.set_cons_succ])
          refine skipH (i := 16) (d := 77) rfl rfl (by kernel_rfl) (by kernel_rfl) (by kernel_rfl) (fun _ _ _ _ _ h => h) (by rfl) (by assumption) ?_
          (try simp only [Act.put, List.setIfInBounds_toArray, List.set_cons_zero, List.set_cons_succ])
          refine skipH (i := 17) (d := 78) rfl rfl (by kernel_rfl) (by kernel_rfl) (by kernel_rfl) (fun _ _ _ _ _ h => h) (by rfl) (by assumption) ?_
          (try simp only [Act.put, List.setIfInBounds_toArray, List.set_cons_zero, List.set_cons_succ])
          refine skipH (i := 18) (d := 79) rfl rfl (by kernel_rfl) (by kernel_rfl) (by kernel_rfl) (fun _ _ _ _ _ h => h) (by rfl) (by assumption) ?_
          (try simp only [Act.put, List.setIfInBounds_toArray, List.set_cons_zero, List.set_cons_succ])
          refine skipH (i := 19) (d := 80) rfl rfl (by kernel_rfl) (by kernel_rfl) (by kernel_rfl) (fun _ _ _ _ _ h => h) (by rfl) (by assumption) ?_
          (try simp only [Act.put, List.setIfInBounds_toArray, List.set_cons_zero, List.set_cons_succ])
          refine takeH (i := 20) (d := 81) (v := ?_) rfl rfl (by kernel_rfl) (by kernel_rfl) (by kernel_rfl) (fun _ _ _ _ _ h => h) (by rfl) ?_ (by assumption) ?_
          rotate_left
          · intro w hSw
            (try dsimp only at hSw)
            go_simp
            try with_reducible rfl
          (try simp only [Act.put, List.setIfInBounds_toArray, List.set_cons_zero, List.set_cons_succ])
          refine wpAnyH_done (by kernel_rfl) ?_ _
          refine NoPanic.normal ?_
          have HKB := Lib.hid (HSZ.out.1.trans ((HSZ.out.2.1.trans hk8.out).below HSZ.out.1.size HLG.out HLG.out HLG.out))
          clear hP HPQ HT1 hk8
          go_wp2_with fail
          go_ret2
          exact ⟨false, rfl, ⟨fun h => (by cases h), fun h => absurd h HNF.out⟩, HKB.out⟩
      · obtain rfl : k = M := by omega
        obtain ⟨_, t1⟩ := truth_at hry
        have hdk := H2.out.2.2.1.below hbwr
        have hul := unionTo_lt (fun j _ => leftC_lt c o2 j) 6 (by omega)
        have HUL : Hid (unionN (leftC c) < 64) := hul
        have hb0 : Hid (Below wr.heap.size wr wr.drew) := (Below.refl _ _).drew
        have HPB : Hid (∀ W, Hid (Below wr.heap.size wr W) → W.cell? ⟨w.heap.size + 1, 1, none⟩ = some (.slice aL L.length qL) ∧ Hid (Kept g g g wr W)) := fun W h => ⟨(h.out.cell (p := ⟨w.heap.size + 1, 1, none⟩) (Array.getElem?_eq_some_iff.1 hry).1).trans t1, Kept.of h.out⟩
        have HPK : Hid (∀ W, Hid (Kept g g g wr W) → W.cell? ⟨w.heap.size + 1, 1, none⟩ = some (.slice aL L.length qL) ∧ Hid (Kept g g g wr W)) := fun W h => ⟨(h.out.cell (p := ⟨w.heap.size + 1, 1, none⟩) (Array.getElem?_eq_some_iff.1 hry).1 hny hny hny).trans t1, h⟩
        have hP : wr.drew.cell? ⟨w.heap.size + 1, 1, none⟩ = some (.slice aL L.length qL) ∧ Hid (Kept g g g wr wr.drew) := HPB.out _ hb0
        have HLF : Hid (Calls Try.prog 98 #[.pointer (some ⟨p, 0, none⟩)] wr.drew fun e w' => e = .returned (.agg (six (leftC c))) ∧ Hid (Below wr.heap.size wr w')) := (left_any c p wr.drew (hdk.below hb0.out)).mono fun _ _ ⟨h1, h2⟩ => ⟨h1, hb0.out.trans (h2.mono hb0.out.size)⟩
        have HUN : Hid (∀ W, Hid (Below wr.heap.size wr W) → Calls Try.prog 109 #[.agg (six (leftC c))] W fun e w' => e = .returned (.int .i64 (unionN (leftC c) : Nat)) ∧ Hid (Below wr.heap.size wr w')) := fun W h => (union_any (leftC c) (fun j _ => leftC_lt c o2 j) W).mono fun _ _ ⟨h1, h2⟩ => ⟨h1, h.out.trans (h2.mono h.out.size)⟩
        have hrm := rmTo_bounds HOK.out HR.out.1
        have t5 := (cell_of_row wr _ 0 _ _ _ hrb).trans rfl
        have hLw : IsInts wr w2.heap.size (.slice aL L.length qL) L := ((HL.out.on H2.out.1).below hbwr (Nat.le_refl _))
        have HTK : Hid (∀ W, Hid (Below wr.heap.size wr W) → Calls Try.prog 132 #[.slice aL L.length qL, .int .i64 (unionN (leftC c) : Nat), .pointer (some ⟨w3.heap.size, 0, none⟩)] W fun e w' => TakesP L (rmTo c T k) (unionN (leftC c)) c.rooms.length g qg W e w') := fun W h =>
          takes_any L (.slice aL L.length qL) (unionN (leftC c)) w3.heap.size g c.rooms.length qg w2.heap.size (rmTo c T k) W (hLw.below h.out (by have := hbwr.size; omega)) hgw HTM.out.2 o2 HUL.out hg3.symm (by omega) ((h.out.cell (p := ⟨w3.heap.size, 0, none⟩) (Array.getElem?_eq_some_iff.1 hrb).1).trans t5) (HR.out.2.1.below h.out (Nat.le_refl _)) hrm
        have HFIN : Hid (∀ W, Hid (Kept g g g wr W) → Below w.heap.size w W) := fun W h => hwwr.trans (h.out.below hwwr.size HLG.out HLG.out HLG.out)
        have HKK := HKM.out
        have HSZ := Lib.hid (And.intro hwwr HR.out.1)
        rcases row_cases L (rmTo c T k) (unionN (leftC c)) c.rooms.length with hall | hno
        · have HT1 : Hid (∀ W, Hid (Below wr.heap.size wr W) → Calls Try.prog 132 #[.slice aL L.length qL, .int .i64 (unionN (leftC c) : Nat), .pointer (some ⟨w3.heap.size, 0, none⟩)] W fun e w' => e = .returned (.bool true) ∧ Hid (Kept g g g wr w')) := fun W h => (HTK.out W h).mono fun e w' k => ⟨(k.1 hall).1, (Kept.of h.out).trans k.2.2⟩
          have HYES : Hid (FitsP c T L) := fits_yes (fun i hi => HR.out.1 i (by omega)) (by rw [HKM.out]; exact hall)
          clear HTK hall hgw hg3 hs12 hy2 hws hw25 hny hry hrb hbwr hT hwwr t1 hdk hul hrm t5 hLw HKK
          go_upto_region 15 with (fail)
          go_region_held3 (fun w' => w'.cell? ⟨w.heap.size + 1, 1, none⟩ = some (.slice aL L.length qL) ∧ Hid (Kept g g g wr w')) (first | with_reducible assumption | with_reducible exact HPB.out _ hb9 | with_reducible exact HPB.out _ hb8 | with_reducible exact HPK.out _ hk10 | fail) (first | (go_at_call 98; (with_reducible refine HLF.out.mono ?_); rintro e w8 ⟨rfl, hb8⟩) | (go_at_call 109; (with_reducible refine (HUN.out _ hb8).mono ?_); rintro e w9 ⟨rfl, hb9⟩) | (go_at_call 132; (with_reducible refine (HT1.out _ hb9).mono ?_); rintro e w10 ⟨rfl, hk10⟩) | fail)
          have HKB := Lib.hid (HFIN.out _ hk10)
          clear hP HPB HPK HLF HUN HT1 HFIN hb0 hb8 hb9 hk10
          go_wp2_with fail
          go_ret2
          exact ⟨true, rfl, ⟨fun _ => HYES.out, fun _ => rfl⟩, HKB.out⟩
        · have HT1 : Hid (∀ W, Hid (Below wr.heap.size wr W) → Calls Try.prog 132 #[.slice aL L.length qL, .int .i64 (unionN (leftC c) : Nat), .pointer (some ⟨w3.heap.size, 0, none⟩)] W fun e w' => e = .returned (.bool false) ∧ Hid (Kept g g g wr w')) := fun W h => (HTK.out W h).mono fun e w' k => ⟨k.2.1 hno, (Kept.of h.out).trans k.2.2⟩
          have HNF : Hid (¬ FitsP c T L) := fits_no_left (by rw [HKM.out]; exact hno)
          clear HTK hno hgw hg3 hs12 hy2 hws hw25 hny hry hrb hbwr hT hwwr t1 hdk hul hrm t5 hLw HKK
          go_upto_region 15 with (fail)
          go_region_held3 (fun w' => w'.cell? ⟨w.heap.size + 1, 1, none⟩ = some (.slice aL L.length qL) ∧ Hid (Kept g g g wr w')) (first | with_reducible assumption | with_reducible exact HPB.out _ hb9 | with_reducible exact HPB.out _ hb8 | with_reducible exact HPK.out _ hk10 | fail) (first | (go_at_call 98; (with_reducible refine HLF.out.mono ?_); rintro e w8 ⟨rfl, hb8⟩) | (go_at_call 109; (with_reducible refine (HUN.out _ hb8).mono ?_); rintro e w9 ⟨rfl, hb9⟩) | (go_at_call 132; (with_reducible refine (HT1.out _ hb9).mono ?_); rintro e w10 ⟨rfl, hk10⟩) | fail)
          have HKB := Lib.hid (HFIN.out _ hk10)
          clear hP HPB HPK HLF HUN HT1 HFIN hb0 hb8 hb9 hk10
          go_wp2_with fail
          go_ret2
          exact ⟨false, rfl, ⟨fun h => (by cases h), fun h => absurd h HNF.out⟩, HKB.out⟩
end Go.Proofs.Ytnhifinfjfpoiaa

namespace Go.Proofs.Ytnhifinfjfpoiaa
open Go.RowKit
set_option linter.unusedVariables false
set_option linter.unusedSimpArgs false
attribute [local go_sem] Oper.semAt_some

set_option maxRecDepth 100000 in
set_option maxHeartbeats 4000000 in
theorem Find_bad (c : Col) (r t u n : Value) (m : Bool) (w : World) (hc : ColAt w w.heap.size r t u n c) (hk : ¬ fitErr c = 0) :
    Calls Try.prog 67 #[.agg #[r, t, u, n], .bool m] w fun e w' => e = .returned (.tuple #[.agg #[.slice none 0 0, .slice none 0 0], .int .i64 (fitErr c)]) ∧ Below w.heap.size w w' := by
  have hBW : Below w.heap.size w ((w.alloc (.cells #[r, t, u, n] 26)).alloc (.cells #[.slice none 0 0, .slice none 0 0] 55)) := ((Below.refl w.heap.size w).alloc (Nat.le_refl _) _).alloc (by simp) _
  have hcA := hc.on hBW
  have HCK := Lib.hid (fitting_bad c r t u n _ hcA hk)
  have hs : ((w.alloc (.cells #[r, t, u, n] 26)).alloc (.cells #[.slice none 0 0, .slice none 0 0] 55)).heap[w.heap.size + 1]? = some (.cells #[.slice none 0 0, .slice none 0 0] 55 (0, 0)) := blk _ _ _ _ (by simp)
  obtain ⟨hr, htr, hu, hn⟩ := hc
  obtain ⟨ar, cr, rfl, _⟩ := hr.open
  obtain ⟨at_, ct, rfl, _⟩ := htr.open
  obtain ⟨au, cu, rfl, _⟩ := hu.open
  obtain ⟨an, cn, rfl, _⟩ := hn.open
  have HB := Lib.hid hBW
  have HS := Lib.hid hs
  have hk1 : (fitErr c == 0) = false := by simpa using hk
  have hk2 : (fitErr c != 0) = true := by simp [bne, hk1]
  clear hr htr hu hn hBW hk hcA hs
  go_enter Try.func67, Try.ntmps67
  go_wp2_with fail
  refine HCK.out.mono ?_
  rintro e w1 ⟨rfl, hb1⟩
  have hs1 := (hb1.block (w.heap.size + 1) (by simp)).trans HS.out
  have k0 := (cell_of_row w1 _ 0 _ _ _ hs1).trans rfl
  have k1 := (cell_of_row w1 _ 1 _ _ _ hs1).trans rfl
  have k2 := frozen_of_row w1 _ 0 _ _ hs1
  have k3 := frozen_of_row w1 _ 1 _ _ hs1
  have HD := Lib.hid hb1
  clear hb1 hs1
  go_wp2_with fail
  refine bodyPost_ret (v := .tuple #[.agg #[.slice none 0 0, .slice none 0 0], .int .i64 (fitErr c)]) (by simp [results, Try.results67, go_sem, k0, k1]) rfl ⟨rfl, ?_⟩
  have h1 := HB.out.trans (HD.out.mono (by simp; omega))
  exact (h1.setCell (p := ⟨w.heap.size + 1, 0, none⟩) (Nat.le_succ _) _).setCell (p := ⟨w.heap.size + 1, 1, none⟩) (Nat.le_succ _) _

def moreX (m : Bool) : Int := if m then 361 else 0

theorem six_ints {w : World} {b n ty : Nat} {f : Nat → Int} (h : w.heap[b]? = some (.cells #[.int .i64 (f 0), .int .i64 (f 1), .int .i64 (f 2), .int .i64 (f 3), .int .i64 (f 4), .int .i64 (f 5)] ty (0, 0))) (hn : n ≤ 6) (hf : ∀ j, j < n → I64 (f j)) :
    IsInts w w.heap.size (.slice (some ⟨b, 0, none⟩) n 6) ((List.range n).map f) := by
  refine ⟨⟨some ⟨b, 0, none⟩, 6, by simp, by simpa using hn, by simp; omega, .inr ⟨b, 0, rfl, (Array.getElem?_eq_some_iff.1 h).1, fun j hj => ?_⟩⟩, fun x hx => ?_⟩
  · have hj' : j < n := by simpa using hj
    refine (cell_of_row w b _ _ _ _ h).trans ?_
    simp only [nth_range f n j hj', Nat.zero_add]
    match j, (show j < 6 by omega) with
    | 0, _ => rfl
    | 1, _ => rfl
    | 2, _ => rfl
    | 3, _ => rfl
    | 4, _ => rfl
    | 5, _ => rfl
  · obtain ⟨j, hj, rfl⟩ := List.mem_map.1 hx
    exact hf j (List.mem_range.1 hj)
theorem find_i64 {c : Col} (hk : fitErr c = 0) {x : Int} (hx : 0 ≤ x) {k j : Nat} (h1 : k < (needsC c).length + 1) (h2 : j < 6) : I64 ((findX c x).giv k j) := by
  have ok := okCol_of (fit_parts hk).1
  have g := find_good hk hx
  have a := (g.le h1 h2).2
  have b := g.giv k j h1 h2
  have d := ok.rooms6 j h2
  unfold I64; omega
theorem findT_small {c : Col} (hk : fitErr c = 0) {x : Int} (hx : 0 ≤ x) : ∀ r ∈ findT c x, r.length ≤ 100 ∧ ∀ y ∈ r, I64 y := by
  have o2 := (okCol_of (fit_parts hk).1).houses.2
  intro r hr
  obtain ⟨k, hk1, rfl⟩ := List.mem_map.1 hr
  refine ⟨by simp; omega, fun y hy => ?_⟩
  obtain ⟨j, hj, rfl⟩ := List.mem_map.1 hy
  rw [List.mem_range] at hk1 hj
  exact find_i64 hk hx (by omega) (by omega)
theorem findL_i64 {c : Col} (hk : fitErr c = 0) {x : Int} (hx : 0 ≤ x) : ∀ y ∈ findL c x, I64 y := by
  have o2 := (okCol_of (fit_parts hk).1).houses.2
  intro y hy
  obtain ⟨j, hj, rfl⟩ := List.mem_map.1 hy
  rw [List.mem_range] at hj
  exact find_i64 hk hx (by omega) (by omega)
theorem findL_len (c : Col) (x : Int) : (findL c x).length = c.rooms.length := by simp [findL]
/-- A list of rows, each in memory of its own, grown by a row. -/
theorem rows_snoc {w8 w9 : World} {b : Nat} {v v' vr : Value} {vs : List Value} {rows : List (List Int)} {row : List Int} (h1 : w8.ownsRow b 22 1 v rows.length vs)
    (h2 : ∀ j, j < rows.length → w8.ownsRow b 3 1 (vs.getD j (.slice none 0 0)) (nthR rows j).length (intsV (nthR rows j))) (hr : w8.ownsRow b 3 1 vr row.length (intsV row))
    (hown : w9.ownsRow b 22 1 v' (rows.length + 1) (vs ++ [vr])) (hg : w8.grownBy w9 v.ownBlock) : OwnRows w9 b v' (rows ++ [row]) := by
  have hkeep : ∀ {y : Value} {n : Nat} {xs : List Value}, w8.ownsRow b 3 1 y n xs → w9.ownsRow b 3 1 y n xs := fun {y n xs} hy =>
    owns_grown hy hg (fun g cs hc => not_own h1 hc (by decide))
  have hvl : vs.length = rows.length := by have := h1.1; simpa using this
  refine ⟨vs ++ [vr], by simpa using hown, fun j hj => ?_⟩
  by_cases q : j < rows.length
  · have e1 : nthR (rows ++ [row]) j = nthR rows j := by unfold nthR; rw [List.getD_eq_getElem?_getD, List.getD_eq_getElem?_getD, List.getElem?_append_left q]
    have e3 : (vs ++ [vr]).getD j (.slice none 0 0) = vs.getD j (.slice none 0 0) := by rw [List.getD_eq_getElem?_getD, List.getD_eq_getElem?_getD, List.getElem?_append_left (by omega)]
    rw [e1, e3]; exact hkeep (h2 j q)
  · obtain rfl : j = rows.length := by simp at hj; omega
    have e1 : nthR (rows ++ [row]) rows.length = row := by unfold nthR; simp
    have e3 : (vs ++ [vr]).getD rows.length (.slice none 0 0) = vr := by rw [← hvl, List.getD_eq_getElem?_getD, List.getElem?_append_right (Nat.le_refl _)]; simp
    rw [e1, e3]; exact hkeep hr
theorem take_row {rows : List (List Int)} {k : Nat} (h : k < rows.length) : rows.take (k + 1) = rows.take k ++ [nthR rows k] := by
  rw [List.take_succ_eq_append_getElem h, nthR_eq h]
/-- The truth that is being made: so many of its rows. -/
def FindRel (c : Col) (x : Int) (w4 : World) (k : Nat) (wr : World) : Prop :=
  ∃ vc lv, wr.heap[w4.heap.size]? = some (.cells #[vc, lv] 55 (0, 0)) ∧ OwnRows wr (w4.heap.size + 1) vc ((findT c x).take k) ∧
    (if k = (needsC c).length + 1 then wr.ownsRow (w4.heap.size + 1) 3 1 lv c.rooms.length (intsV (findL c x)) else lv = .slice none 0 0) ∧ Below w4.heap.size w4 wr
theorem findT_len (c : Col) (x : Int) : (findT c x).length = (needsC c).length := by simp [findT]
theorem findT_row {c : Col} {x : Int} {k : Nat} (hk : k < (needsC c).length) : nthR (findT c x) k = (List.range c.rooms.length).map ((findX c x).giv k) := by simp [findT, nthR, hk]

set_option maxRecDepth 100000 in
set_option maxHeartbeats 4000000 in
theorem Find_ok (c : Col) (r t u n : Value) (m : Bool) (w : World) (hc : ColAt w w.heap.size r t u n c) (hk : fitErr c = 0) :
    Calls Try.prog 67 #[.agg #[r, t, u, n], .bool m] w fun e w' => ∃ tv lv, e = .returned (.tuple #[.agg #[tv, lv], .int .i64 0]) ∧ IsRows w' w'.heap.size tv (findT c (moreX m)) ∧ IsInts w' w'.heap.size lv (findL c (moreX m)) ∧ Below w.heap.size w w' := by
  have ok := okCol_of (fit_parts hk).1
  have o2 := ok.houses.2
  have hBW : Below w.heap.size w ((w.alloc (.cells #[r, t, u, n] 26)).alloc (.cells #[.slice none 0 0, .slice none 0 0] 55)) := ((Below.refl w.heap.size w).alloc (Nat.le_refl _) _).alloc (by simp) _
  have hcA := hc.on hBW
  have HCK := Lib.hid (fitting_ok c r t u n _ (hcA.mono (Nat.le_refl _)) hk)
  have hs : ((w.alloc (.cells #[r, t, u, n] 26)).alloc (.cells #[.slice none 0 0, .slice none 0 0] 55)).heap[w.heap.size + 1]? = some (.cells #[.slice none 0 0, .slice none 0 0] 55 (0, 0)) := blk _ _ _ _ (by simp)
  have hx : ((w.alloc (.cells #[r, t, u, n] 26)).alloc (.cells #[.slice none 0 0, .slice none 0 0] 55)).heap[w.heap.size]? = some (.cells #[r, t, u, n] 26 (0, 0)) := keep _ (blk _ _ _ _ rfl)
  obtain ⟨hr, htr, hu, hn⟩ := hc
  have HRI := Lib.hid hr
  obtain ⟨ar, cr, rfl, _⟩ := hr.open
  obtain ⟨at_, ct, rfl, _⟩ := htr.open
  obtain ⟨au, cu, rfl, _⟩ := hu.open
  obtain ⟨an, cn, rfl, _⟩ := hn.open
  have HB := Lib.hid hBW; have HS := Lib.hid hs; have HX := Lib.hid hx; have HC := Lib.hid hcA; have HOK := Lib.hid ok; have HK := Lib.hid hk
  clear hr htr hu hn hBW hk hcA hs hx ok
  cases m
  · go_enter Try.func67, Try.ntmps67
    go_wp2_with fail
    refine HCK.out.mono ?_
    rintro e w1 ⟨p, rfl, hb1, hd⟩
    have HD := Lib.hid (And.intro hb1 hd)
    clear hb1 hd
    have hul := unionTo_lt (fun j _ => leftC_lt c o2 j) 6 (by omega)
    have HUL : Hid (unionN (leftC c) < 64) := hul
    obtain ⟨x0, x1, x2, x3⟩ := four_at (blk_on HX.out HD.out.1)
    clear hul
    go_wp2_with (first | (go_at_call 98; refine (left_any c p _ HD.out.2).mono ?_; rintro e w2 ⟨rfl, hb2⟩; have H2 := Lib.hid hb2; clear hb2) | (go_at_call 109; refine (union_any (leftC c) (fun j _ => leftC_lt c o2 j) _).mono ?_; rintro e w3 ⟨rfl, hb3⟩; have H3 := Lib.hid (H2.out.trans (hb3.mono H2.out.size)); have hX3 := blk_on (blk_on HX.out HD.out.1) H3.out; have HX3 := Lib.hid hX3; have HS3 := Lib.hid (blk_on (blk_on HS.out HD.out.1) H3.out); obtain ⟨y0, y1, y2, y3⟩ := four_at (keep (.cells #[.int .i64 0, .int .i64 (unionN (leftC c) : Nat)] 154) hX3); clear hb3 hX3 x0 x1 x2 x3))
    have hbS : Below w1.heap.size w1 ((w3.alloc (.cells #[.int .i64 0, .int .i64 (unionN (leftC c) : Nat)] 154)).alloc (.cells #[.int .i64 0, .int .i64 (unionN (leftC c) : Nat)] 154)) := (H3.out.alloc H3.out.size _).alloc (by have := H3.out.size; simp; omega) _
    have hb3S : Below w3.heap.size w3 ((w3.alloc (.cells #[.int .i64 0, .int .i64 (unionN (leftC c) : Nat)] 154)).alloc (.cells #[.int .i64 0, .int .i64 (unionN (leftC c) : Nat)] 154)) := ((Below.refl _ _).alloc (Nat.le_refl _) _).alloc (by simp) _
    refine (share_any c p c.rooms _ _ [(0, ((unionN (leftC c) : Nat) : Int))] _ (HD.out.2.below hbS) (((HRI.out.on HB.out).on HD.out.1).on hbS) o2 (.inr ⟨w3.heap.size + 1, 1, 0, unionN (leftC c), rfl, rfl, by simp [go_sem], by simp [go_sem], by simp, HUL.out, by constructor <;> decide⟩)).mono ?_
    rintro e w4 ⟨s, g, nv, rfl, hst, hb4, hsz4⟩
    have HST := Lib.hid hst
    have HX4 := Lib.hid (blk_on (blk_on HX3.out hb3S) hb4)
    have HS4 := Lib.hid (blk_on (blk_on HS3.out hb3S) hb4)
    have HB4 := Lib.hid (HB.out.trans ((HD.out.1.trans ((hbS.trans (hb4.mono hbS.size)).mono HD.out.1.size)).mono HB.out.size))
    obtain ⟨N, hN⟩ : ∃ N, (needsC c).length + 1 = N := ⟨_, rfl⟩
    have hlen : (needsC c ++ [((0 : Int), ((unionN (leftC c) : Nat) : Int))]).length = N := by rw [← hN]; simp
    have hgv : GivAt w4 g N (findX c 0).giv := by have := hst.giv; rw [hlen] at this; exact this
    have hsl : w4.cell? ⟨s, 7, none⟩ = some (.slice (some ⟨g, 0, none⟩) N N) := by
      have := (cell_of_row w4 s 7 _ _ _ hst.stall).trans rfl
      rw [hlen] at this; exact this
    have hslt : s < w4.heap.size := hst.lt.1
    have hglt : g < w4.heap.size := hst.lt.2
    have hsl' := (((Below.refl w4.heap.size w4).alloc (Nat.le_refl _) (.cells #[.slice none 0 0, .slice none 0 0] 55)).cell (p := ⟨s, 7, none⟩) hslt).trans hsl
    have HGV := Lib.hid (And.intro hgv (And.intro hsl (And.intro hslt hglt)))
    have HN := Lib.hid hN
    have hN40 : N ≤ 37 := by have := needsC_len HOK.out; omega
    obtain ⟨i0, hi, hz0, hz1, hz2⟩ := info_parts infoRow
    clear hst hb4 hsz4 hlen hgv hsl hslt hN hbS hb3S y0 y1 y2 y3 HST HCK
    go_wp2_with fail
    obtain ⟨W5, hW5⟩ : ∃ W5, w4.alloc (.cells #[.slice none 0 0, .slice none 0 0] 55) = W5 := ⟨_, rfl⟩
    have h5 : FindRel c 0 w4 0 W5 := by
      rw [← hW5]
      refine ⟨.slice none 0 0, .slice none 0 0, heap_alloc_new _ _, ⟨[], World.ownsRow_nil _ _ _ _, fun j hj => by simp at hj⟩, ?_, (Below.refl _ _).alloc (Nat.le_refl _) _⟩
      rw [if_neg (by omega)]
    have H5 := Lib.hid h5
    rw [hW5] at hsl' ⊢
    clear hW5 h5 hsl'
    go_loopw [50] (fun i wr => ∃ k : Nat, k ≤ N ∧ i = .int .i64 k ∧ Hid (FindRel c 0 w4 k wr)) (fun i _ => N - (intOf i).toNat)
    case atStart => exact ⟨0, Nat.zero_le _, rfl, H5⟩
    case round =>
      obtain ⟨k, hk, rfl, HR⟩ := hrel
      by_cases hlt : k < N
      · have hki : (k : Int) < N := by omega
        obtain ⟨vc, lv, hblk, hrows, hleft, hbel⟩ := HR.out
        obtain ⟨ac, qc, rfl⟩ := hrows.slice
        have m := fun j (hj : j < 6) => (hbel.cell (p := ⟨g, k * 6 + j, none⟩) HGV.out.2.2.2).trans (HGV.out.1.cell k j hlt hj)
        have hI : ∀ j, j < 6 → I64 ((findX c 0).giv k j) := fun j hj => find_i64 HK.out (by decide) (by have := HN.out; omega) hj
        obtain ⟨f, hf⟩ : ∃ f, (findX c 0).giv k = f := ⟨_, rfl⟩
        rw [hf] at m hI
        have m0 := m 0 (by omega); have m1 := m 1 (by omega); have m2 := m 2 (by omega); have m3 := m 3 (by omega); have m4 := m 4 (by omega); have m5 := m 5 (by omega)
        rw [Nat.add_zero] at m0
        have hsr := (hbel.cell (p := ⟨s, 7, none⟩) HGV.out.2.2.1).trans HGV.out.2.1
        have hxr := blk_on HX4.out hbel
        obtain ⟨q0, q1, q2, q3⟩ := four_at (keep (.cells #[.int .i64 (f 0), .int .i64 (f 1), .int .i64 (f 2), .int .i64 (f 3), .int .i64 (f 4), .int .i64 (f 5)] 179) hxr)
        have hlr : (findT c 0).take k = (findT c 0).take k := rfl
        have hcl := clone_any ((List.range c.rooms.length).map f) _ (wr.alloc (.cells #[.int .i64 (f 0), .int .i64 (f 1), .int .i64 (f 2), .int .i64 (f 3), .int .i64 (f 4), .int .i64 (f 5)] 179)) (six_ints (heap_alloc_new _ _) o2 (fun j hj => hI j (by omega))) (by simp; omega) (by have := HOK.out.houses.1; simp; omega)
        simp only [List.length_map, List.length_range] at hcl
        have HCL := Lib.hid hcl
        have HF := Lib.hid hf
        have hr6 : (c.rooms.length : Int) ≤ 6 := by omega
        have hr0 : (0 : Int) ≤ (c.rooms.length : Int) := by omega
        have HRL := Lib.hid (And.intro hblk (And.intro hrows (And.intro hleft hbel)))
        have HRL2 := Lib.hid hleft
        clear m hI hf hxr hcl hblk hrows hleft hbel hlr
        go_wp2_with fail
        refine HCL.out.mono ?_
        rintro e w6 ⟨g6, c6, rfl, hown6, hb6, hg6⟩
        have hbW : Below wr.heap.size wr w6 := ((Below.refl _ _).alloc (Nat.le_refl _) _).trans (hb6.mono (by simp))
        obtain ⟨hblk, hrows, hleft, hbel⟩ := HRL.out
        have hbel6 := hbel.trans (hbW.mono hbel.size)
        have hblk6 := blk_on hblk hbW
        have b0 := (cell_of_row w6 _ 0 _ _ _ hblk6).trans rfl
        have b1 := (cell_of_row w6 _ 1 _ _ _ hblk6).trans rfl
        have f0 := frozen_of_row w6 _ 0 _ _ hblk6
        have f1 := frozen_of_row w6 _ 1 _ _ hblk6
        have hs6 := (hbel6.cell (p := ⟨s, 7, none⟩) HGV.out.2.2.1).trans HGV.out.2.1
        have hown6' : w6.ownsRow (w4.heap.size + 1) 3 1 (.slice (some ⟨g6, 0, none⟩) c.rooms.length c6) c.rooms.length (intsV ((List.range c.rooms.length).map f)) := owns_base hown6 (by have := hbel.size; have := (Array.getElem?_eq_some_iff.1 hblk).1; simp; omega)
        have hB14 : w4.heap.size < wr.heap.size := (Array.getElem?_eq_some_iff.1 hblk).1
        have hrows6 := hrows.below hbW
        have hlk : ((findT c 0).take k).length = k := by rw [List.length_take, findT_len]; have := HN.out; omega
        rw [hlk] at b0 hblk6 hrows6
        by_cases e : k + 1 = N
        · have he : ((k : Int) == (N : Int) - 1) = true := by simp; omega
          have h7 : FindRel c 0 w4 (k + 1) (w6.setCell ⟨w4.heap.size, 1, none⟩ (.slice (some ⟨g6, 0, none⟩) c.rooms.length c6)) := by
            have hKk : k = (needsC c).length := by have := HN.out; omega
            refine ⟨.slice ac k qc, .slice (some ⟨g6, 0, none⟩) c.rooms.length c6, ?_, ?_, ?_, hbel6.setCell (p := ⟨w4.heap.size, 1, none⟩) (Nat.le_refl _) _⟩
            · rw [heap_setCell_same w6 _ 1 _ _ _ hblk6]; rfl
            · have e1 : (findT c 0).take (k + 1) = (findT c 0).take k := by rw [List.take_of_length_le (by rw [findT_len]; omega), List.take_of_length_le (by rw [findT_len]; omega)]
              rw [e1]; exact OwnRows.set hrows6 (by simp)
            · rw [if_pos (by omega)]
              have e2 : intsV (findL c 0) = intsV ((List.range c.rooms.length).map f) := by unfold findL; rw [← hKk, HF.out]
              rw [e2]; exact owns_set hown6' (by simp)
          have H7 := Lib.hid h7
          clear h7 hown6 hb6 hg6 hbW hblk hrows hleft hbel hbel6 hblk6 hown6' hrows6 hlk HRL HCL hsr m0 m1 m2 m3 m4 m5 q0 q1 q2 q3
          go_wp2_with fail
          go_roundw
          case rel => exact ⟨k + 1, by omega, by go_num, H7.out⟩
          case measure => simp [intOf]; omega
        · have he : ((k : Int) == (N : Int) - 1) = false := by simp; omega
          have hkK : k < (needsC c).length := by have := HN.out; omega
          obtain ⟨vs, hv1, hv2⟩ := hrows6
          rw [hlk] at hv1 hv2
          have hvA := hv1.alloc (.cells #[.slice (some ⟨g6, 0, none⟩) c.rooms.length c6] 22)
          have HV := Lib.hid (And.intro hvA (And.intro hv2 (And.intro hown6' (And.intro hbel6 hblk6))))
          have HLK := Lib.hid hlk
          have hsz6 : w4.heap.size + 1 ≤ w6.heap.size := by have := hbW.size; omega
          clear hown6 hb6 hg6 hbW hblk hrows hleft hbel hbel6 hblk6 hown6' hlk hvA hv1 hv2 HRL HCL hsr m0 m1 m2 m3 m4 m5 q0 q1 q2 q3
          go_wp2_with (at_builtin; refine wpList_append_lies _ rfl _ _ 24 rfl (w4.heap.size + 1) 22 i0 (.slice none 0 0) 1 24 Try.underlying24 hi hz0 hz1 hz2 rfl (by decide) (.slice ac k qc) k vs rfl HV.out.1 ⟨w6.heap.size, 0, none⟩ 1 1 [.slice (some ⟨g6, 0, none⟩) c.rooms.length c6] rfl rfl (cell_one_new _ _ _) (fun y hy => by simp at hy; subst hy; rfl) (by decide) (by unfold maxLen; omega) (by omega) (by simp; omega) (w6.heap.size + 1) (by simp) ?_; intro g9 c9 w9 hown9 hgrow9 _ _; have HG := Lib.hid (And.intro hown9 hgrow9); have hb9 : Below (w4.heap.size + 1) (w6.alloc (.cells #[.slice (some ⟨g6, 0, none⟩) c.rooms.length c6] 22)) w9 := below_grown (Below.refl _ _) hgrow9 (fun r hr => (HV.out.1.lt r hr).1) (by simp; omega); have hblk9 := (hb9.block w4.heap.size (by omega)).trans (keep (.cells #[.slice (some ⟨g6, 0, none⟩) c.rooms.length c6] 22) HV.out.2.2.2.2); have r0 := (cell_of_row w9 _ 0 _ _ _ hblk9).trans rfl; have rf0 := frozen_of_row w9 _ 0 _ _ hblk9; have HB9 := Lib.hid (And.intro hb9 hblk9); clear hown9 hgrow9 hb9 hblk9)
          have h7 : FindRel c 0 w4 (k + 1) (w9.setCell ⟨w4.heap.size, 0, none⟩ (.slice (some ⟨g9, 0, none⟩) (k + 1) c9)) := by
            obtain ⟨hvA, hv2, hown6', hbel6, hblk6⟩ := HV.out
            refine ⟨.slice (some ⟨g9, 0, none⟩) (k + 1) c9, lv, ?_, ?_, ?_, ?_⟩
            · rw [heap_setCell_same w9 _ 0 _ _ _ HB9.out.2]; rfl
            · rw [take_row (by rw [findT_len]; exact hkK), findT_row hkK, HF.out]
              refine OwnRows.set (rows_snoc (v := .slice ac k qc) (vs := vs) (by rw [HLK.out]; exact hvA) (fun j hj => ?_) (vr := .slice (some ⟨g6, 0, none⟩) c.rooms.length c6) ?_ (by rw [HLK.out]; exact HG.out.1) HG.out.2) (by simp)
              · rw [HLK.out] at hj
                exact (hv2 j hj).alloc _
              · rw [List.length_map, List.length_range]; exact hown6'.alloc _
            · have := HRL2.out
              rw [if_neg (by have := HN.out; omega)]
              rw [if_neg (by have := HN.out; omega)] at this
              exact this
            · exact ((hbel6.alloc hbel6.size _).trans (HB9.out.1.mono (by omega))).setCell (p := ⟨w4.heap.size, 0, none⟩) (Nat.le_refl _) _
          have H7 := Lib.hid h7
          clear h7 HV HG HB9 r0 rf0
          go_wp2_with fail
          go_roundw
          case rel => exact ⟨k + 1, by omega, by go_num, H7.out⟩
          case measure => simp [intOf]; omega
      · obtain rfl : k = N := by omega
        obtain ⟨vc, lv, hblk, hrows, hleft, hbel⟩ := HR.out
        have hkN := HN.out
        have hKl : ((findT c 0).take k) = findT c 0 := List.take_of_length_le (by rw [findT_len]; omega)
        rw [hKl] at hrows
        rw [if_pos hkN.symm] at hleft
        obtain ⟨ac, qc, rfl⟩ := hrows.slice
        obtain ⟨al, ql, rfl⟩ := owns_slice hleft
        have b0 := (cell_of_row wr _ 0 _ _ _ hblk).trans rfl
        have b1 := (cell_of_row wr _ 1 _ _ _ hblk).trans rfl
        have hsr := blk_on HS4.out hbel
        have k2 := frozen_of_row wr _ 0 _ _ hsr
        have k3 := frozen_of_row wr _ 1 _ _ hsr
        have HS5 := Lib.hid (And.intro hrows (And.intro hleft (And.intro hbel hsr)))
        have k0 := (cell_of_row wr _ 0 _ _ _ hsr).trans rfl
        have k1 := (cell_of_row wr _ 1 _ _ _ hsr).trans rfl
        clear hblk hrows hleft hbel hsr hkN hKl
        go_wp2_with fail
        obtain ⟨hrows, hleft, hbel, hsr⟩ := HS5.out
        have hlt4 : w.heap.size + 1 < w4.heap.size := (Array.getElem?_eq_some_iff.1 HS4.out).1
        have hx2 : moreX false = 0 := rfl
        refine bodyPost_ret (v := .tuple #[.agg #[.slice ac (findT c 0).length qc, .slice al c.rooms.length ql], .int .i64 0]) (by simp [results, Try.results67, go_sem, k0, k1, k2, k3]) rfl ⟨_, _, rfl, ?_, ?_, ?_⟩
        · exact ((hrows.set (by simp; omega)).set (by simp; omega)).rows (by rw [findT_len]; have := needsC_len HOK.out; omega) (findT_small HK.out (by decide))
        · rw [hx2]
          exact nums_of_owns (by rw [findL_len]; exact owns_set (owns_set hleft (by simp; omega)) (by simp; omega)) (findL_i64 HK.out (by decide)) (by rw [findL_len]; omega)
        · have h1 := HB4.out.trans (hbel.mono HB4.out.size)
          exact (h1.setCell (p := ⟨w.heap.size + 1, 0, none⟩) (Nat.le_succ _) _).setCell (p := ⟨w.heap.size + 1, 1, none⟩) (Nat.le_succ _) _
  · go_enter Try.func67, Try.ntmps67
    go_wp2_with fail
    refine HCK.out.mono ?_
    rintro e w1 ⟨p, rfl, hb1, hd⟩
    have HD := Lib.hid (And.intro hb1 hd)
    clear hb1 hd
    have hul := unionTo_lt (fun j _ => leftC_lt c o2 j) 6 (by omega)
    have HUL : Hid (unionN (leftC c) < 64) := hul
    obtain ⟨x0, x1, x2, x3⟩ := four_at (blk_on HX.out HD.out.1)
    clear hul
    go_wp2_with (first | (go_at_call 98; refine (left_any c p _ HD.out.2).mono ?_; rintro e w2 ⟨rfl, hb2⟩; have H2 := Lib.hid hb2; clear hb2) | (go_at_call 109; refine (union_any (leftC c) (fun j _ => leftC_lt c o2 j) _).mono ?_; rintro e w3 ⟨rfl, hb3⟩; have H3 := Lib.hid (H2.out.trans (hb3.mono H2.out.size)); have hX3 := blk_on (blk_on HX.out HD.out.1) H3.out; have HX3 := Lib.hid hX3; have HS3 := Lib.hid (blk_on (blk_on HS.out HD.out.1) H3.out); obtain ⟨y0, y1, y2, y3⟩ := four_at (keep (.cells #[.int .i64 361, .int .i64 (unionN (leftC c) : Nat)] 154) hX3); clear hb3 hX3 x0 x1 x2 x3))
    have hbS : Below w1.heap.size w1 ((w3.alloc (.cells #[.int .i64 361, .int .i64 (unionN (leftC c) : Nat)] 154)).alloc (.cells #[.int .i64 361, .int .i64 (unionN (leftC c) : Nat)] 154)) := (H3.out.alloc H3.out.size _).alloc (by have := H3.out.size; simp; omega) _
    have hb3S : Below w3.heap.size w3 ((w3.alloc (.cells #[.int .i64 361, .int .i64 (unionN (leftC c) : Nat)] 154)).alloc (.cells #[.int .i64 361, .int .i64 (unionN (leftC c) : Nat)] 154)) := ((Below.refl _ _).alloc (Nat.le_refl _) _).alloc (by simp) _
    refine (share_any c p c.rooms _ _ [(361, ((unionN (leftC c) : Nat) : Int))] _ (HD.out.2.below hbS) (((HRI.out.on HB.out).on HD.out.1).on hbS) o2 (.inr ⟨w3.heap.size + 1, 1, 361, unionN (leftC c), rfl, rfl, by simp [go_sem], by simp [go_sem], by simp, HUL.out, by constructor <;> decide⟩)).mono ?_
    rintro e w4 ⟨s, g, nv, rfl, hst, hb4, hsz4⟩
    have HST := Lib.hid hst
    have HX4 := Lib.hid (blk_on (blk_on HX3.out hb3S) hb4)
    have HS4 := Lib.hid (blk_on (blk_on HS3.out hb3S) hb4)
    have HB4 := Lib.hid (HB.out.trans ((HD.out.1.trans ((hbS.trans (hb4.mono hbS.size)).mono HD.out.1.size)).mono HB.out.size))
    obtain ⟨N, hN⟩ : ∃ N, (needsC c).length + 1 = N := ⟨_, rfl⟩
    have hlen : (needsC c ++ [((361 : Int), ((unionN (leftC c) : Nat) : Int))]).length = N := by rw [← hN]; simp
    have hgv : GivAt w4 g N (findX c 361).giv := by have := hst.giv; rw [hlen] at this; exact this
    have hsl : w4.cell? ⟨s, 7, none⟩ = some (.slice (some ⟨g, 0, none⟩) N N) := by
      have := (cell_of_row w4 s 7 _ _ _ hst.stall).trans rfl
      rw [hlen] at this; exact this
    have hslt : s < w4.heap.size := hst.lt.1
    have hglt : g < w4.heap.size := hst.lt.2
    have hsl' := (((Below.refl w4.heap.size w4).alloc (Nat.le_refl _) (.cells #[.slice none 0 0, .slice none 0 0] 55)).cell (p := ⟨s, 7, none⟩) hslt).trans hsl
    have HGV := Lib.hid (And.intro hgv (And.intro hsl (And.intro hslt hglt)))
    have HN := Lib.hid hN
    have hN40 : N ≤ 37 := by have := needsC_len HOK.out; omega
    obtain ⟨i0, hi, hz0, hz1, hz2⟩ := info_parts infoRow
    clear hst hb4 hsz4 hlen hgv hsl hslt hN hbS hb3S y0 y1 y2 y3 HST HCK
    go_wp2_with fail
    obtain ⟨W5, hW5⟩ : ∃ W5, w4.alloc (.cells #[.slice none 0 0, .slice none 0 0] 55) = W5 := ⟨_, rfl⟩
    have h5 : FindRel c 361 w4 0 W5 := by
      rw [← hW5]
      refine ⟨.slice none 0 0, .slice none 0 0, heap_alloc_new _ _, ⟨[], World.ownsRow_nil _ _ _ _, fun j hj => by simp at hj⟩, ?_, (Below.refl _ _).alloc (Nat.le_refl _) _⟩
      rw [if_neg (by omega)]
    have H5 := Lib.hid h5
    rw [hW5] at hsl' ⊢
    clear hW5 h5 hsl'
    go_loopw [50] (fun i wr => ∃ k : Nat, k ≤ N ∧ i = .int .i64 k ∧ Hid (FindRel c 361 w4 k wr)) (fun i _ => N - (intOf i).toNat)
    case atStart => exact ⟨0, Nat.zero_le _, rfl, H5⟩
    case round =>
      obtain ⟨k, hk, rfl, HR⟩ := hrel
      by_cases hlt : k < N
      · have hki : (k : Int) < N := by omega
        obtain ⟨vc, lv, hblk, hrows, hleft, hbel⟩ := HR.out
        obtain ⟨ac, qc, rfl⟩ := hrows.slice
        have m := fun j (hj : j < 6) => (hbel.cell (p := ⟨g, k * 6 + j, none⟩) HGV.out.2.2.2).trans (HGV.out.1.cell k j hlt hj)
        have hI : ∀ j, j < 6 → I64 ((findX c 361).giv k j) := fun j hj => find_i64 HK.out (by decide) (by have := HN.out; omega) hj
        obtain ⟨f, hf⟩ : ∃ f, (findX c 361).giv k = f := ⟨_, rfl⟩
        rw [hf] at m hI
        have m0 := m 0 (by omega); have m1 := m 1 (by omega); have m2 := m 2 (by omega); have m3 := m 3 (by omega); have m4 := m 4 (by omega); have m5 := m 5 (by omega)
        rw [Nat.add_zero] at m0
        have hsr := (hbel.cell (p := ⟨s, 7, none⟩) HGV.out.2.2.1).trans HGV.out.2.1
        have hxr := blk_on HX4.out hbel
        obtain ⟨q0, q1, q2, q3⟩ := four_at (keep (.cells #[.int .i64 (f 0), .int .i64 (f 1), .int .i64 (f 2), .int .i64 (f 3), .int .i64 (f 4), .int .i64 (f 5)] 179) hxr)
        have hlr : (findT c 361).take k = (findT c 361).take k := rfl
        have hcl := clone_any ((List.range c.rooms.length).map f) _ (wr.alloc (.cells #[.int .i64 (f 0), .int .i64 (f 1), .int .i64 (f 2), .int .i64 (f 3), .int .i64 (f 4), .int .i64 (f 5)] 179)) (six_ints (heap_alloc_new _ _) o2 (fun j hj => hI j (by omega))) (by simp; omega) (by have := HOK.out.houses.1; simp; omega)
        simp only [List.length_map, List.length_range] at hcl
        have HCL := Lib.hid hcl
        have HF := Lib.hid hf
        have hr6 : (c.rooms.length : Int) ≤ 6 := by omega
        have hr0 : (0 : Int) ≤ (c.rooms.length : Int) := by omega
        have HRL := Lib.hid (And.intro hblk (And.intro hrows (And.intro hleft hbel)))
        have HRL2 := Lib.hid hleft
        clear m hI hf hxr hcl hblk hrows hleft hbel hlr
        go_wp2_with fail
        refine HCL.out.mono ?_
        rintro e w6 ⟨g6, c6, rfl, hown6, hb6, hg6⟩
        have hbW : Below wr.heap.size wr w6 := ((Below.refl _ _).alloc (Nat.le_refl _) _).trans (hb6.mono (by simp))
        obtain ⟨hblk, hrows, hleft, hbel⟩ := HRL.out
        have hbel6 := hbel.trans (hbW.mono hbel.size)
        have hblk6 := blk_on hblk hbW
        have b0 := (cell_of_row w6 _ 0 _ _ _ hblk6).trans rfl
        have b1 := (cell_of_row w6 _ 1 _ _ _ hblk6).trans rfl
        have f0 := frozen_of_row w6 _ 0 _ _ hblk6
        have f1 := frozen_of_row w6 _ 1 _ _ hblk6
        have hs6 := (hbel6.cell (p := ⟨s, 7, none⟩) HGV.out.2.2.1).trans HGV.out.2.1
        have hown6' : w6.ownsRow (w4.heap.size + 1) 3 1 (.slice (some ⟨g6, 0, none⟩) c.rooms.length c6) c.rooms.length (intsV ((List.range c.rooms.length).map f)) := owns_base hown6 (by have := hbel.size; have := (Array.getElem?_eq_some_iff.1 hblk).1; simp; omega)
        have hB14 : w4.heap.size < wr.heap.size := (Array.getElem?_eq_some_iff.1 hblk).1
        have hrows6 := hrows.below hbW
        have hlk : ((findT c 361).take k).length = k := by rw [List.length_take, findT_len]; have := HN.out; omega
        rw [hlk] at b0 hblk6 hrows6
        by_cases e : k + 1 = N
        · have he : ((k : Int) == (N : Int) - 1) = true := by simp; omega
          have h7 : FindRel c 361 w4 (k + 1) (w6.setCell ⟨w4.heap.size, 1, none⟩ (.slice (some ⟨g6, 0, none⟩) c.rooms.length c6)) := by
            have hKk : k = (needsC c).length := by have := HN.out; omega
            refine ⟨.slice ac k qc, .slice (some ⟨g6, 0, none⟩) c.rooms.length c6, ?_, ?_, ?_, hbel6.setCell (p := ⟨w4.heap.size, 1, none⟩) (Nat.le_refl _) _⟩
            · rw [heap_setCell_same w6 _ 1 _ _ _ hblk6]; rfl
            · have e1 : (findT c 361).take (k + 1) = (findT c 361).take k := by rw [List.take_of_length_le (by rw [findT_len]; omega), List.take_of_length_le (by rw [findT_len]; omega)]
              rw [e1]; exact OwnRows.set hrows6 (by simp)
            · rw [if_pos (by omega)]
              have e2 : intsV (findL c 361) = intsV ((List.range c.rooms.length).map f) := by unfold findL; rw [← hKk, HF.out]
              rw [e2]; exact owns_set hown6' (by simp)
          have H7 := Lib.hid h7
          clear h7 hown6 hb6 hg6 hbW hblk hrows hleft hbel hbel6 hblk6 hown6' hrows6 hlk HRL HCL hsr m0 m1 m2 m3 m4 m5 q0 q1 q2 q3
          go_wp2_with fail
          go_roundw
          case rel => exact ⟨k + 1, by omega, by go_num, H7.out⟩
          case measure => simp [intOf]; omega
        · have he : ((k : Int) == (N : Int) - 1) = false := by simp; omega
          have hkK : k < (needsC c).length := by have := HN.out; omega
          obtain ⟨vs, hv1, hv2⟩ := hrows6
          rw [hlk] at hv1 hv2
          have hvA := hv1.alloc (.cells #[.slice (some ⟨g6, 0, none⟩) c.rooms.length c6] 22)
          have HV := Lib.hid (And.intro hvA (And.intro hv2 (And.intro hown6' (And.intro hbel6 hblk6))))
          have HLK := Lib.hid hlk
          have hsz6 : w4.heap.size + 1 ≤ w6.heap.size := by have := hbW.size; omega
          clear hown6 hb6 hg6 hbW hblk hrows hleft hbel hbel6 hblk6 hown6' hlk hvA hv1 hv2 HRL HCL hsr m0 m1 m2 m3 m4 m5 q0 q1 q2 q3
          go_wp2_with (at_builtin; refine wpList_append_lies _ rfl _ _ 24 rfl (w4.heap.size + 1) 22 i0 (.slice none 0 0) 1 24 Try.underlying24 hi hz0 hz1 hz2 rfl (by decide) (.slice ac k qc) k vs rfl HV.out.1 ⟨w6.heap.size, 0, none⟩ 1 1 [.slice (some ⟨g6, 0, none⟩) c.rooms.length c6] rfl rfl (cell_one_new _ _ _) (fun y hy => by simp at hy; subst hy; rfl) (by decide) (by unfold maxLen; omega) (by omega) (by simp; omega) (w6.heap.size + 1) (by simp) ?_; intro g9 c9 w9 hown9 hgrow9 _ _; have HG := Lib.hid (And.intro hown9 hgrow9); have hb9 : Below (w4.heap.size + 1) (w6.alloc (.cells #[.slice (some ⟨g6, 0, none⟩) c.rooms.length c6] 22)) w9 := below_grown (Below.refl _ _) hgrow9 (fun r hr => (HV.out.1.lt r hr).1) (by simp; omega); have hblk9 := (hb9.block w4.heap.size (by omega)).trans (keep (.cells #[.slice (some ⟨g6, 0, none⟩) c.rooms.length c6] 22) HV.out.2.2.2.2); have r0 := (cell_of_row w9 _ 0 _ _ _ hblk9).trans rfl; have rf0 := frozen_of_row w9 _ 0 _ _ hblk9; have HB9 := Lib.hid (And.intro hb9 hblk9); clear hown9 hgrow9 hb9 hblk9)
          have h7 : FindRel c 361 w4 (k + 1) (w9.setCell ⟨w4.heap.size, 0, none⟩ (.slice (some ⟨g9, 0, none⟩) (k + 1) c9)) := by
            obtain ⟨hvA, hv2, hown6', hbel6, hblk6⟩ := HV.out
            refine ⟨.slice (some ⟨g9, 0, none⟩) (k + 1) c9, lv, ?_, ?_, ?_, ?_⟩
            · rw [heap_setCell_same w9 _ 0 _ _ _ HB9.out.2]; rfl
            · rw [take_row (by rw [findT_len]; exact hkK), findT_row hkK, HF.out]
              refine OwnRows.set (rows_snoc (v := .slice ac k qc) (vs := vs) (by rw [HLK.out]; exact hvA) (fun j hj => ?_) (vr := .slice (some ⟨g6, 0, none⟩) c.rooms.length c6) ?_ (by rw [HLK.out]; exact HG.out.1) HG.out.2) (by simp)
              · rw [HLK.out] at hj
                exact (hv2 j hj).alloc _
              · rw [List.length_map, List.length_range]; exact hown6'.alloc _
            · have := HRL2.out
              rw [if_neg (by have := HN.out; omega)]
              rw [if_neg (by have := HN.out; omega)] at this
              exact this
            · exact ((hbel6.alloc hbel6.size _).trans (HB9.out.1.mono (by omega))).setCell (p := ⟨w4.heap.size, 0, none⟩) (Nat.le_refl _) _
          have H7 := Lib.hid h7
          clear h7 HV HG HB9 r0 rf0
          go_wp2_with fail
          go_roundw
          case rel => exact ⟨k + 1, by omega, by go_num, H7.out⟩
          case measure => simp [intOf]; omega
      · obtain rfl : k = N := by omega
        obtain ⟨vc, lv, hblk, hrows, hleft, hbel⟩ := HR.out
        have hkN := HN.out
        have hKl : ((findT c 361).take k) = findT c 361 := List.take_of_length_le (by rw [findT_len]; omega)
        rw [hKl] at hrows
        rw [if_pos hkN.symm] at hleft
        obtain ⟨ac, qc, rfl⟩ := hrows.slice
        obtain ⟨al, ql, rfl⟩ := owns_slice hleft
        have b0 := (cell_of_row wr _ 0 _ _ _ hblk).trans rfl
        have b1 := (cell_of_row wr _ 1 _ _ _ hblk).trans rfl
        have hsr := blk_on HS4.out hbel
        have k2 := frozen_of_row wr _ 0 _ _ hsr
        have k3 := frozen_of_row wr _ 1 _ _ hsr
        have HS5 := Lib.hid (And.intro hrows (And.intro hleft (And.intro hbel hsr)))
        have k0 := (cell_of_row wr _ 0 _ _ _ hsr).trans rfl
        have k1 := (cell_of_row wr _ 1 _ _ _ hsr).trans rfl
        clear hblk hrows hleft hbel hsr hkN hKl
        go_wp2_with fail
        obtain ⟨hrows, hleft, hbel, hsr⟩ := HS5.out
        have hlt4 : w.heap.size + 1 < w4.heap.size := (Array.getElem?_eq_some_iff.1 HS4.out).1
        have hx2 : moreX true = 361 := rfl
        refine bodyPost_ret (v := .tuple #[.agg #[.slice ac (findT c 361).length qc, .slice al c.rooms.length ql], .int .i64 0]) (by simp [results, Try.results67, go_sem, k0, k1, k2, k3]) rfl ⟨_, _, rfl, ?_, ?_, ?_⟩
        · exact ((hrows.set (by simp; omega)).set (by simp; omega)).rows (by rw [findT_len]; have := needsC_len HOK.out; omega) (findT_small HK.out (by decide))
        · rw [hx2]
          exact nums_of_owns (by rw [findL_len]; exact owns_set (owns_set hleft (by simp; omega)) (by simp; omega)) (findL_i64 HK.out (by decide)) (by rw [findL_len]; omega)
        · have h1 := HB4.out.trans (hbel.mono HB4.out.size)
          exact (h1.setCell (p := ⟨w.heap.size + 1, 0, none⟩) (Nat.le_succ _) _).setCell (p := ⟨w.heap.size + 1, 1, none⟩) (Nat.le_succ _) _
end Go.Proofs.Ytnhifinfjfpoiaa
