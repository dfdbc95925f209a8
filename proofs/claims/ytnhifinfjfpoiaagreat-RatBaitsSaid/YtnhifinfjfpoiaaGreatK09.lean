/- Contracts of the chapter's example and of a span made. What the chapter's example comes to. The chapter's examples: awake answers true. -/
import Derived.Test.YtnhifinfjfpoiaaGreatK05
import Derived.Test.YtnhifinfjfpoiaaGreatK01
import Derived.Test.YtnhifinfjfpoiaaGreatK06
import Derived.Test.YtnhifinfjfpoiaaGreatK07
import Derived.Deep.RegionHeld3
namespace Go.Proofs.YtnhifinfjfpoiaaGreat
open Go.RowKit
set_option linter.unusedVariables false

def rowC : Col := ⟨[5, 4, 6], [2, 3, 1], [(0, 1), (1, 2)], [[2, 1, 1], [1, 3, 0]]⟩
theorem span_any (x y : Int) (w : World) : Calls Tryz.prog 32 #[.int .i64 x, .int .i64 y] w fun e w' => e = .returned (.agg #[.int .i64 x, .int .i64 y]) ∧ w.alloc (.cells #[.int .i64 x, .int .i64 y] 59) = w' := by
  go_enter Tryz.func32, Tryz.ntmps32
  go_wp2_with fail
  exact bodyPost_ret (v := .agg #[.int .i64 x, .int .i64 y]) (by simp [results, Tryz.results32, go_sem]) rfl ⟨rfl, rfl⟩
/-- A block whose cells are pairs. -/
theorem pairs_of_cells {w : World} {g n : Nat} {l : List (Int × Int)} {e : Nat} (h : w.heap[g]? = some (.cells (pairsV l).toArray e (0, 0))) (hn : l.length = n) (hl : ∀ p ∈ l, I64 p.1 ∧ I64 p.2) (hlen : n ≤ 140737488355328) : IsPairs w w.heap.size (.slice (some ⟨g, 0, none⟩) n n) l := by
  subst hn
  refine ⟨⟨some ⟨g, 0, none⟩, l.length, rfl, Nat.le_refl _, hlen, .inr ⟨g, 0, rfl, (Array.getElem?_eq_some_iff.1 h).1, fun j hj => ?_⟩⟩, hl⟩
  refine (cell_of_row w g (0 + j) _ _ _ h).trans ?_
  rw [Nat.zero_add, List.getElem?_toArray]
  exact pairsV_get l j hj
theorem blk (w : World) (cs : Array Value) (t : TypeId) (n : Nat) (h : w.heap.size = n) : (w.alloc (.cells cs t)).heap[n]? = some (.cells cs t (0, 0)) := by subst h; exact heap_alloc_new w _
theorem keep {w : World} {k : Nat} {x : Obj} (o : Obj) (h : w.heap[k]? = some x) : (w.alloc o).heap[k]? = some x :=
  (((Below.refl w.heap.size w).alloc (Nat.le_refl _) o).block k (Array.getElem?_eq_some_iff.1 h).1).trans h
/-- A slice of rows out of a block of slices. -/
theorem rows_of_two {w : World} {g e b1 b2 n1 n2 : Nat} {l1 l2 : List Int} (h : w.heap[g]? = some (.cells #[.slice (some ⟨b1, 0, none⟩) n1 n1, .slice (some ⟨b2, 0, none⟩) n2 n2] e (0, 0)))
    (h1 : IsInts w w.heap.size (.slice (some ⟨b1, 0, none⟩) n1 n1) l1) (h2 : IsInts w w.heap.size (.slice (some ⟨b2, 0, none⟩) n2 n2) l2) : IsRows w w.heap.size (.slice (some ⟨g, 0, none⟩) 2 2) [l1, l2] := by
  refine ⟨fun j => if j = 0 then .slice (some ⟨b1, 0, none⟩) n1 n1 else .slice (some ⟨b2, 0, none⟩) n2 n2, ⟨some ⟨g, 0, none⟩, 2, rfl, Nat.le_refl _, by simp, .inr ⟨g, 0, rfl, (Array.getElem?_eq_some_iff.1 h).1, fun j hj => ?_⟩⟩, fun j hj => ?_⟩
  · match j, hj with
    | 0, _ => exact cell_of_row w g 0 _ _ _ h
    | 1, _ => exact cell_of_row w g 1 _ _ _ h
  · match j, hj with
    | 0, _ => exact h1
    | 1, _ => exact h2
theorem i64_small {l : List Int} (h : l.all (fun x => decide (-1000 ≤ x ∧ x ≤ 1000)) = true) : ∀ x ∈ l, I64 x := by
  intro x hx
  have := List.all_eq_true.1 h x hx
  simp at this
  constructor <;> omega
theorem i64_pairs {l : List (Int × Int)} (h : l.all (fun p => decide (-1000 ≤ p.1 ∧ p.1 ≤ 1000 ∧ -1000 ≤ p.2 ∧ p.2 ≤ 1000)) = true) : ∀ p ∈ l, I64 p.1 ∧ I64 p.2 := by
  intro x hx
  have := List.all_eq_true.1 h x hx
  simp at this
  exact ⟨by constructor <;> omega, by constructor <;> omega⟩
def rowV (n : Nat) : Array Value := #[.slice (some ⟨n + 1, 0, none⟩) 3 3, .slice (some ⟨n + 1 + 1, 0, none⟩) 3 3, .slice (some ⟨n + 1 + 1 + 1, 0, none⟩) 2 2, .slice (some ⟨n + 1 + 1 + 1 + 1 + 1 + 1, 0, none⟩) 2 2]
theorem row_mem (w : World) (W : World) (hW : (((((((w.alloc (.cells (rowV w.heap.size) 26)).alloc (.cells #[.int .i64 5, .int .i64 4, .int .i64 6] 3)).alloc (.cells #[.int .i64 2, .int .i64 3, .int .i64 1] 3)).alloc (.cells #[.int .i64 0, .int .i64 1, .int .i64 1, .int .i64 2] 48)).alloc (.cells #[.int .i64 2, .int .i64 1, .int .i64 1] 3)).alloc (.cells #[.int .i64 1, .int .i64 3, .int .i64 0] 3)).alloc (.cells #[.slice (some ⟨w.heap.size + 1 + 1 + 1 + 1, 0, none⟩) 3 3, .slice (some ⟨w.heap.size + 1 + 1 + 1 + 1 + 1, 0, none⟩) 3 3] 22)) = W) :
    ColAt W W.heap.size (.slice (some ⟨w.heap.size + 1, 0, none⟩) 3 3) (.slice (some ⟨w.heap.size + 1 + 1, 0, none⟩) 3 3) (.slice (some ⟨w.heap.size + 1 + 1 + 1, 0, none⟩) 2 2) (.slice (some ⟨w.heap.size + 1 + 1 + 1 + 1 + 1 + 1, 0, none⟩) 2 2) rowC ∧ Below w.heap.size w W := by
  have h1 : W.heap[w.heap.size + 1]? = some (.cells (intsV [5, 4, 6]).toArray 3 (0, 0)) := by rw [← hW]; exact keep _ (keep _ (keep _ (keep _ (keep _ (blk _ _ _ _ (by simp))))))
  have h2 : W.heap[w.heap.size + 1 + 1]? = some (.cells (intsV [2, 3, 1]).toArray 3 (0, 0)) := by rw [← hW]; exact keep _ (keep _ (keep _ (keep _ (blk _ _ _ _ (by simp)))))
  have h3 : W.heap[w.heap.size + 1 + 1 + 1]? = some (.cells (pairsV [(0, 1), (1, 2)]).toArray 48 (0, 0)) := by rw [← hW]; exact keep _ (keep _ (keep _ (blk _ _ _ _ (by simp))))
  have h4 : W.heap[w.heap.size + 1 + 1 + 1 + 1]? = some (.cells (intsV [2, 1, 1]).toArray 3 (0, 0)) := by rw [← hW]; exact keep _ (keep _ (blk _ _ _ _ (by simp)))
  have h5 : W.heap[w.heap.size + 1 + 1 + 1 + 1 + 1]? = some (.cells (intsV [1, 3, 0]).toArray 3 (0, 0)) := by rw [← hW]; exact keep _ (blk _ _ _ _ (by simp))
  have h6 := by have := blk (((((((w.alloc (.cells (rowV w.heap.size) 26)).alloc (.cells #[.int .i64 5, .int .i64 4, .int .i64 6] 3)).alloc (.cells #[.int .i64 2, .int .i64 3, .int .i64 1] 3)).alloc (.cells #[.int .i64 0, .int .i64 1, .int .i64 1, .int .i64 2] 48)).alloc (.cells #[.int .i64 2, .int .i64 1, .int .i64 1] 3)).alloc (.cells #[.int .i64 1, .int .i64 3, .int .i64 0] 3))) #[.slice (some ⟨w.heap.size + 1 + 1 + 1 + 1, 0, none⟩) 3 3, .slice (some ⟨w.heap.size + 1 + 1 + 1 + 1 + 1, 0, none⟩) 3 3] 22 (w.heap.size + 1 + 1 + 1 + 1 + 1 + 1) (by simp); rw [hW] at this; exact this
  refine ⟨⟨ints_of_cells h1 rfl (i64_small (by decide)) (by decide), ints_of_cells h2 rfl (i64_small (by decide)) (by decide), pairs_of_cells h3 rfl (i64_pairs (by decide)) (by decide), rows_of_two h6 (ints_of_cells h4 rfl (i64_small (by decide)) (by decide)) (ints_of_cells h5 rfl (i64_small (by decide)) (by decide))⟩, ?_⟩
  rw [← hW]
  refine ((((((((Below.refl _ w).alloc (Nat.le_refl _) _).alloc ?_ _).alloc ?_ _).alloc ?_ _).alloc ?_ _).alloc ?_ _).alloc ?_ _)
  all_goals (simp only [World.size_alloc]; omega)
theorem row_any (w : World) : Calls Tryz.prog 17 #[] w fun e w' => ∃ n : Nat, e = .returned (.agg #[.slice (some ⟨n + 1, 0, none⟩) 3 3, .slice (some ⟨n + 1 + 1, 0, none⟩) 3 3, .slice (some ⟨n + 1 + 1 + 1, 0, none⟩) 2 2, .slice (some ⟨n + 1 + 1 + 1 + 1 + 1 + 1, 0, none⟩) 2 2]) ∧ ColAt w' w'.heap.size (.slice (some ⟨n + 1, 0, none⟩) 3 3) (.slice (some ⟨n + 1 + 1, 0, none⟩) 3 3) (.slice (some ⟨n + 1 + 1 + 1, 0, none⟩) 2 2) (.slice (some ⟨n + 1 + 1 + 1 + 1 + 1 + 1, 0, none⟩) 2 2) rowC ∧ Below w.heap.size w w' := by
  go_enter Tryz.func17, Tryz.ntmps17
  go_wp2_with fail
  obtain ⟨h1, h2⟩ := row_mem w _ rfl
  exact bodyPost_ret (v := .agg (rowV w.heap.size)) (by simp [results, Tryz.results17, go_sem, rowV]) rfl ⟨w.heap.size, rfl, h1, h2⟩
theorem IsInts.on {w w' : World} {v : Value} {xs : List Int} (h : IsInts w w.heap.size v xs) (hb : Below w.heap.size w w') : IsInts w' w'.heap.size v xs := (h.below hb (Nat.le_refl _)).mono hb.size
theorem IsPairs.on {w w' : World} {v : Value} {xs : List (Int × Int)} (h : IsPairs w w.heap.size v xs) (hb : Below w.heap.size w w') : IsPairs w' w'.heap.size v xs := (h.below hb (Nat.le_refl _)).mono hb.size
theorem ColAt.on {w w' : World} {r t u n : Value} {c : Col} (h : ColAt w w.heap.size r t u n c) (hb : Below w.heap.size w w') : ColAt w' w'.heap.size r t u n c := (h.below hb (Nat.le_refl _)).mono hb.size
theorem blk_on {w w' : World} {b : Nat} {o : Obj} (h : w.heap[b]? = some o) (hb : Below w.heap.size w w') : w'.heap[b]? = some o := (hb.block b (Array.getElem?_eq_some_iff.1 h).1).trans h

end Go.Proofs.YtnhifinfjfpoiaaGreat

namespace Go.Proofs.YtnhifinfjfpoiaaGreat
open Go.RowKit
set_option linter.unusedVariables false

def smallC : Col := ⟨[1, 4, 2], [2, 3, 1], [(0, 1), (1, 2)], [[2, 1, 1], [1, 3, 0]]⟩
theorem row_check : checkC rowC = 0 := by decide +kernel
theorem small_check : checkC smallC = 0 := by decide +kernel
theorem row_fit : fitErr rowC = 0 := by rw [fit_err (okCol_of row_check) row_check]; decide +kernel
theorem small_fit : fitErr smallC = 7 := by rw [fit_err (okCol_of small_check) small_check]; decide +kernel
theorem row_full : fullV rowC 2 0 = true := by decide +kernel
theorem row_asked : askedErr rowC 2 0 = 0 := by decide +kernel
theorem row_asked1 : askedErr rowC 1 1 = 0 := by decide +kernel
theorem row_org : natsI (members (org rowC 1 1)) = [0, 2] := by decide +kernel
theorem row_all : (fitX rowC).all = 8 := by rw [fit_all row_fit]; decide +kernel
theorem row_rats : ratsC rowC = (8, 12) := by rw [rats_more (okCol_of row_check), row_all]; decide +kernel
theorem row_most (f : Nat) : mostC rowC (fitX rowC).all f = moreC rowC f - 8 := by rw [most_more (okCol_of row_check), row_all]
theorem row_after : afterC rowC = [0, 4, 0] := by
  unfold afterC afterTo
  simp only [row_most]
  decide +kernel
theorem row_need : needC rowC = [4, 4, 4] := by
  unfold needC needTo
  simp only [row_most]
  decide +kernel
theorem row_pos : posC rowC = 2 := by unfold posC; rw [row_after]; decide +kernel
theorem row_bait : baitErr rowC 1 = 0 := by unfold baitErr; rw [row_fit, row_check]; decide +kernel
theorem row_baits : baitsC rowC 1 = [0] := by unfold baitsC; rw [row_pos]; decide +kernel
theorem row_gone : goneErr rowC [2, 1] = 0 ∧ goneV rowC [2, 1] = true := by decide +kernel
theorem row_goneB : goneB rowC [2, 1] = true := by decide +kernel
theorem row_reach : reachErr rowC 0 1 = 0 ∧ natsI (members (reachN rowC 0 1)) = [0, 1] := by decide +kernel
theorem row_grow : growErr rowC 50 2 = 0 ∧ growC rowC 50 2 = 9 := by
  unfold growErr growC
  rw [row_fit, row_rats, row_check]
  decide +kernel
theorem small_short : shortErr smallC [0, 2] = 0 ∧ shortV smallC [0, 2] = (4, 0) := by decide +kernel
theorem start_cut {c : Col} (ok : OkCol c) (h : Nat) : (shareF (needsC c) (c.rooms.set h 0)).all = cutC (needsC c) (nth (c.rooms.set h 0)) := by
  refine (share_fed _ _ (fun j hj => ?_) (needs_nonneg ok)).cut
  have h1 := ok.rooms6 j hj
  have h2 : nth (c.rooms.set h 0) j = 0 ∨ nth (c.rooms.set h 0) j = nth c.rooms j := by
    unfold nth
    rw [List.getD_eq_getElem?_getD, List.getD_eq_getElem?_getD, List.getElem?_set]
    by_cases e : h = j
    · left
      rw [if_pos e]
      split <;> rfl
    · right
      rw [if_neg e]
  omega
theorem row_starts : startsC rowC = [(3, 5), (1, 1), (2, 6)] := by
  unfold startsC startsTo startOf
  simp only [row_all, start_cut (okCol_of row_check)]
  decide +kernel
end Go.Proofs.YtnhifinfjfpoiaaGreat

namespace Go.Proofs.YtnhifinfjfpoiaaGreat
open Go.RowKit
set_option linter.unusedVariables false
attribute [local go_sem] Oper.semAt_some

/-- What the region keeps: a span, and all that stood. -/
theorem aws_alloc {A W : World} {b : Nat} {x y : Value} {lo : Obj} (hb : b < A.heap.size) (h : W.cell? ⟨b, 0, none⟩ = some x ∧ W.cell? ⟨b, 1, none⟩ = some y ∧ Hid (Below A.heap.size A W)) :
    (W.alloc lo).cell? ⟨b, 0, none⟩ = some x ∧ (W.alloc lo).cell? ⟨b, 1, none⟩ = some y ∧ Hid (Below A.heap.size A (W.alloc lo)) := by
  have hb2 : Below W.heap.size W (W.alloc lo) := (Below.refl _ _).alloc (Nat.le_refl _) _
  have hsz := h.2.2.out.size
  exact ⟨(hb2.cell (p := ⟨b, 0, none⟩) (by simp; omega)).trans h.1, (hb2.cell (p := ⟨b, 1, none⟩) (by simp; omega)).trans h.2.1, h.2.2.out.trans (hb2.mono hsz)⟩
theorem aws_below {A W W' : World} {b : Nat} {x y : Value} (hb : b < A.heap.size) (hb2 : Below W.heap.size W W') (h : W.cell? ⟨b, 0, none⟩ = some x ∧ W.cell? ⟨b, 1, none⟩ = some y ∧ Hid (Below A.heap.size A W)) :
    W'.cell? ⟨b, 0, none⟩ = some x ∧ W'.cell? ⟨b, 1, none⟩ = some y ∧ Hid (Below A.heap.size A W') := by
  have hsz := h.2.2.out.size
  exact ⟨(hb2.cell (p := ⟨b, 0, none⟩) (by simp; omega)).trans h.1, (hb2.cell (p := ⟨b, 1, none⟩) (by simp; omega)).trans h.2.1, h.2.2.out.trans (hb2.mono hsz)⟩
theorem heap_alloc_drew (X : World) (cs : Array Value) (t : TypeId) : (X.alloc (.cells cs t)).drew.heap[X.heap.size]? = some (.cells cs t (0, 0)) := heap_alloc_new X _
theorem heap_alloc_drew' (X : World) (cs : Array Value) (t : TypeId) (n : Nat) (h : X.heap.size = n) : (X.alloc (.cells cs t)).drew.heap[n]? = some (.cells cs t (0, 0)) := by subst h; exact heap_alloc_new X _
theorem heap_alloc_new' (X : World) (cs : Array Value) (t : TypeId) (n : Nat) (h : X.heap.size = n) : (X.alloc (.cells cs t)).heap[n]? = some (.cells cs t (0, 0)) := by subst h; exact heap_alloc_new X _
theorem alike_here {A : World} {v : Value} {xs : List Int} (hv : IsInts A A.heap.size v xs) (ys : List Int) (hy : ys.all (fun x => decide (-1000 ≤ x ∧ x ≤ 1000)) = true) (e : xs = ys) (cs : Array Value) (hcs : cs = (intsV ys).toArray) (n : Nat) (hn : n = ys.length) (h100 : n ≤ 100) :
    ∀ (W : World) (g : Nat), Hid (Below A.heap.size A W) → W.heap[g]? = some (.cells cs 3 (0, 0)) → Calls Tryz.prog 11 #[v, .slice (some ⟨g, 0, none⟩) n n] W fun e w' => e = .returned (.bool true) ∧ W = w' := by
  intro W g hb hg
  subst hcs hn
  refine (alike_any xs ys _ _ W (hv.on hb.out) (ints_of_cells hg rfl (i64_small hy) (by omega))).mono ?_
  rintro e w' ⟨rfl, rfl⟩
  exact ⟨by simp [e], rfl⟩
theorem alikeSpan_here {A : World} {v : Value} {xs : List (Int × Int)} (hv : IsPairs A A.heap.size v xs) (ys : List (Int × Int)) (hy : ys.all (fun p => decide (-1000 ≤ p.1 ∧ p.1 ≤ 1000 ∧ -1000 ≤ p.2 ∧ p.2 ≤ 1000)) = true) (e : xs = ys) (cs : Array Value) (hcs : cs = (pairsV ys).toArray) (n : Nat) (hn : n = ys.length) (h100 : n ≤ 100) :
    ∀ (W : World) (g : Nat), Hid (Below A.heap.size A W) → W.heap[g]? = some (.cells cs 59 (0, 0)) → Calls Tryz.prog 33 #[v, .slice (some ⟨g, 0, none⟩) n n] W fun e w' => e = .returned (.bool true) ∧ Below W.heap.size W w' := by
  intro W g hb hg
  subst hcs hn
  refine (alikeSpan_any xs ys _ _ W (hv.on hb.out) (pairs_of_cells hg rfl (i64_pairs hy) (by omega))).mono ?_
  rintro e w' ⟨rfl, h⟩
  exact ⟨by simp [e], h⟩

set_option maxRecDepth 100000 in
set_option maxHeartbeats 4000000 in
theorem awake_any (w : World) : Calls Tryz.prog 6 #[] w fun e w' => e = .returned (.bool true) ∧ Below w.heap.size w w' := by
  have HH0 : Hid (Below w.heap.size w w) := Below.refl _ _
  go_enter Tryz.func6, Tryz.ntmps6
  go_wp2_with fail
  refine (row_any _).mono ?_
  rintro e r1 ⟨n1, rfl, hc, hb⟩
  have hcon := full_any rowC _ _ _ _ 2 0 _ hc
  rw [row_full, row_asked] at hcon
  have HCON := Lib.hid hcon
  have HB := Lib.hid hb
  clear hcon hb hc
  go_wp2_with fail
  refine HCON.out.mono ?_
  rintro e w1 ⟨rfl, hb2⟩
  have hbc : Below w.heap.size w w1 := HB.out.trans (hb2.mono HB.out.size)
  have HH1 : Hid (Below w.heap.size w w1) := HH0.out.trans (hbc.mono HH0.out.size)
  clear HCON HB hb2 hbc HH0
  go_wp2_with fail
  refine (row_any _).mono ?_
  rintro e r2 ⟨n2, rfl, hc, hb⟩
  have hcon := Origins_good rowC _ _ _ _ 1 1 _ hc row_asked1
  rw [show (1 : Int).toNat = 1 from rfl, row_org] at hcon
  have HCON := Lib.hid hcon
  have HB := Lib.hid hb
  clear hcon hb hc
  go_wp2_with fail
  refine HCON.out.mono ?_
  rintro e w2 ⟨v2, rfl, hv, hb2⟩
  have hbc : Below w1.heap.size w1 w2 := HB.out.trans (hb2.mono HB.out.size)
  have HH2 : Hid (Below w.heap.size w w2 ∧ IsInts w2 w2.heap.size v2 [0, 2]) := ⟨HH1.out.trans (hbc.mono HH1.out.size), hv⟩
  clear HCON HB hb2 hbc HH1 hv
  go_wp2_with fail
  refine (row_any _).mono ?_
  rintro e r3 ⟨n3, rfl, hc, hb⟩
  have hcon := Rats_ok rowC _ _ _ _ _ hc row_fit
  rw [row_rats] at hcon
  have HCON := Lib.hid hcon
  have HB := Lib.hid hb
  clear hcon hb hc
  go_wp2_with fail
  refine HCON.out.mono ?_
  rintro e w3 ⟨rfl, hb2⟩
  have hbc : Below w2.heap.size w2 w3 := HB.out.trans (hb2.mono HB.out.size)
  have HH3 : Hid (Below w.heap.size w w3 ∧ IsInts w3 w3.heap.size v2 [0, 2]) := ⟨HH2.out.1.trans (hbc.mono HH2.out.1.size), HH2.out.2.on hbc⟩
  clear HCON HB hb2 hbc HH2
  go_wp2_with fail
  have hnew : (w3.alloc (.cells #[.int .i64 8, .int .i64 12] 59)).heap[w3.heap.size]? = some (.cells #[.int .i64 8, .int .i64 12] 59 (0, 0)) := heap_alloc_new _ _
  have hbc : Below w3.heap.size w3 (w3.alloc (.cells #[.int .i64 8, .int .i64 12] 59)) := (Below.refl _ _).alloc (Nat.le_refl _) _
  obtain ⟨A3, hW⟩ : ∃ A3, w3.alloc (.cells #[.int .i64 8, .int .i64 12] 59) = A3 := ⟨_, rfl⟩
  rw [hW] at hnew hbc ⊢
  clear hW
  have HA3 : Hid (Below w.heap.size w A3 ∧ IsInts A3 A3.heap.size v2 [0, 2] ∧ A3.heap[w3.heap.size]? = some (.cells #[.int .i64 8, .int .i64 12] 59 (0, 0))) := ⟨HH3.out.1.trans (hbc.mono HH3.out.1.size), HH3.out.2.on hbc, hnew⟩
  clear hnew hbc HH3
  refine (row_any _).mono ?_
  rintro e r4 ⟨n4, rfl, hc, hb⟩
  have hcon := Starts_ok rowC _ _ _ _ _ hc row_fit
  rw [row_starts] at hcon
  have HCON := Lib.hid hcon
  have HB := Lib.hid hb
  clear hcon hb hc
  go_wp2_with fail
  refine HCON.out.mono ?_
  rintro e w4 ⟨v4, rfl, hv, hb2⟩
  have hbc : Below A3.heap.size A3 w4 := HB.out.trans (hb2.mono HB.out.size)
  have HH4 : Hid (Below w.heap.size w w4 ∧ IsInts w4 w4.heap.size v2 [0, 2] ∧ w4.heap[w3.heap.size]? = some (.cells #[.int .i64 8, .int .i64 12] 59 (0, 0)) ∧ IsPairs w4 w4.heap.size v4 [(3, 5), (1, 1), (2, 6)]) := ⟨HA3.out.1.trans (hbc.mono HA3.out.1.size), HA3.out.2.1.on hbc, blk_on HA3.out.2.2 hbc, hv⟩
  clear HCON HB hb2 hbc HA3 hv
  go_wp2_with fail
  refine (row_any _).mono ?_
  rintro e r5 ⟨n5, rfl, hc, hb⟩
  have hcon := After_ok rowC _ _ _ _ _ hc row_fit
  rw [row_after] at hcon
  have HCON := Lib.hid hcon
  have HB := Lib.hid hb
  clear hcon hb hc
  go_wp2_with fail
  refine HCON.out.mono ?_
  rintro e w5 ⟨v5, rfl, hv, hb2⟩
  have hbc : Below w4.heap.size w4 w5 := HB.out.trans (hb2.mono HB.out.size)
  have HH5 : Hid (Below w.heap.size w w5 ∧ IsInts w5 w5.heap.size v2 [0, 2] ∧ w5.heap[w3.heap.size]? = some (.cells #[.int .i64 8, .int .i64 12] 59 (0, 0)) ∧ IsPairs w5 w5.heap.size v4 [(3, 5), (1, 1), (2, 6)] ∧ IsInts w5 w5.heap.size v5 [0, 4, 0]) := ⟨HH4.out.1.trans (hbc.mono HH4.out.1.size), HH4.out.2.1.on hbc, blk_on HH4.out.2.2.1 hbc, HH4.out.2.2.2.on hbc, hv⟩
  clear HCON HB hb2 hbc HH4 hv
  go_wp2_with fail
  refine (row_any _).mono ?_
  rintro e r6 ⟨n6, rfl, hc, hb⟩
  have hcon := Need_ok rowC _ _ _ _ _ hc row_fit
  rw [row_need] at hcon
  have HCON := Lib.hid hcon
  have HB := Lib.hid hb
  clear hcon hb hc
  go_wp2_with fail
  refine HCON.out.mono ?_
  rintro e w6 ⟨v6, rfl, hv, hb2⟩
  have hbc : Below w5.heap.size w5 w6 := HB.out.trans (hb2.mono HB.out.size)
  have HH6 : Hid (Below w.heap.size w w6 ∧ IsInts w6 w6.heap.size v2 [0, 2] ∧ w6.heap[w3.heap.size]? = some (.cells #[.int .i64 8, .int .i64 12] 59 (0, 0)) ∧ IsPairs w6 w6.heap.size v4 [(3, 5), (1, 1), (2, 6)] ∧ IsInts w6 w6.heap.size v5 [0, 4, 0] ∧ IsInts w6 w6.heap.size v6 [4, 4, 4]) := ⟨HH5.out.1.trans (hbc.mono HH5.out.1.size), HH5.out.2.1.on hbc, blk_on HH5.out.2.2.1 hbc, HH5.out.2.2.2.1.on hbc, HH5.out.2.2.2.2.on hbc, hv⟩
  clear HCON HB hb2 hbc HH5 hv
  go_wp2_with fail
  refine (row_any _).mono ?_
  rintro e r7 ⟨n7, rfl, hc, hb⟩
  have hcon := Baits_ok rowC _ _ _ _ 1 _ hc row_bait
  rw [show (1 : Int).toNat = 1 from rfl, row_baits] at hcon
  have HCON := Lib.hid hcon
  have HB := Lib.hid hb
  clear hcon hb hc
  go_wp2_with fail
  refine HCON.out.mono ?_
  rintro e w7 ⟨v7, rfl, hv, hb2⟩
  have hbc : Below w6.heap.size w6 w7 := HB.out.trans (hb2.mono HB.out.size)
  have HH7 : Hid (Below w.heap.size w w7 ∧ IsInts w7 w7.heap.size v2 [0, 2] ∧ w7.heap[w3.heap.size]? = some (.cells #[.int .i64 8, .int .i64 12] 59 (0, 0)) ∧ IsPairs w7 w7.heap.size v4 [(3, 5), (1, 1), (2, 6)] ∧ IsInts w7 w7.heap.size v5 [0, 4, 0] ∧ IsInts w7 w7.heap.size v6 [4, 4, 4] ∧ IsInts w7 w7.heap.size v7 [0]) := ⟨HH6.out.1.trans (hbc.mono HH6.out.1.size), HH6.out.2.1.on hbc, blk_on HH6.out.2.2.1 hbc, HH6.out.2.2.2.1.on hbc, HH6.out.2.2.2.2.1.on hbc, HH6.out.2.2.2.2.2.on hbc, hv⟩
  clear HCON HB hb2 hbc HH6 hv
  go_wp2_with fail
  simp only [List.append]
  have hbs : w3.heap.size < w7.heap.size := (Array.getElem?_eq_some_iff.1 HH7.out.2.2.1).1
  have AL0 := Lib.hid (alike_here HH7.out.2.1 [0, 2] (by decide) rfl #[.int .i64 0, .int .i64 2] rfl 2 rfl (by decide))
  have AL1 := Lib.hid (alikeSpan_here HH7.out.2.2.2.1 [(3, 5), (1, 1), (2, 6)] (by decide) rfl #[.int .i64 3, .int .i64 5, .int .i64 1, .int .i64 1, .int .i64 2, .int .i64 6] rfl 3 rfl (by decide))
  have AL2 := Lib.hid (alike_here HH7.out.2.2.2.2.1 [0, 4, 0] (by decide) rfl #[.int .i64 0, .int .i64 4, .int .i64 0] rfl 3 rfl (by decide))
  have AL3 := Lib.hid (alike_here HH7.out.2.2.2.2.2.1 [4, 4, 4] (by decide) rfl #[.int .i64 4, .int .i64 4, .int .i64 4] rfl 3 rfl (by decide))
  have AL4 := Lib.hid (alike_here HH7.out.2.2.2.2.2.2 [0] (by decide) rfl #[.int .i64 0] rfl 1 rfl (by decide))
  have hc0 : w7.cell? ⟨w3.heap.size, 0, none⟩ = some (.int .i64 8) := (cell_of_row _ _ 0 _ _ _ HH7.out.2.2.1).trans rfl
  have hc1 : w7.cell? ⟨w3.heap.size, 1, none⟩ = some (.int .i64 12) := (cell_of_row _ _ 1 _ _ _ HH7.out.2.2.1).trans rfl
  have hS : w7.drew.cell? ⟨w3.heap.size, 0, none⟩ = some (.int .i64 8) ∧ w7.drew.cell? ⟨w3.heap.size, 1, none⟩ = some (.int .i64 12) ∧ Hid (Below w7.heap.size w7 w7.drew) := ⟨hc0, hc1, (Below.refl _ _).drew⟩
  have HBS := Lib.hid hbs
  clear hbs hc0 hc1
  go_region_held3 (fun w' => w'.cell? ⟨w3.heap.size, 0, none⟩ = some (.int .i64 8) ∧ w'.cell? ⟨w3.heap.size, 1, none⟩ = some (.int .i64 12) ∧ Hid (Below w7.heap.size w7 w')) (first | assumption | exact aws_alloc HBS.out (by assumption) | exact aws_below HBS.out (by assumption) (by assumption))
    (first | (go_at_call 11; (with_reducible refine (AL0.out _ _ (by exact (by assumption : _ ∧ _ ∧ Hid _).2.2) (by first | exact heap_alloc_drew _ _ _ | exact heap_alloc_new _ _ | exact heap_alloc_drew' _ _ _ _ (by simp) | exact heap_alloc_new' _ _ _ _ (by simp))).mono ?_); rintro e w' ⟨rfl, rfl⟩) | (go_at_call 33; (with_reducible refine (AL1.out _ _ (by exact (by assumption : _ ∧ _ ∧ Hid _).2.2) (by first | exact heap_alloc_drew _ _ _ | exact heap_alloc_new _ _ | exact heap_alloc_drew' _ _ _ _ (by simp) | exact heap_alloc_new' _ _ _ _ (by simp))).mono ?_); rintro e w' ⟨rfl, hbelow⟩) | (go_at_call 11; (with_reducible refine (AL2.out _ _ (by exact (by assumption : _ ∧ _ ∧ Hid _).2.2) (by first | exact heap_alloc_drew _ _ _ | exact heap_alloc_new _ _ | exact heap_alloc_drew' _ _ _ _ (by simp) | exact heap_alloc_new' _ _ _ _ (by simp))).mono ?_); rintro e w' ⟨rfl, rfl⟩) | (go_at_call 11; (with_reducible refine (AL3.out _ _ (by exact (by assumption : _ ∧ _ ∧ Hid _).2.2) (by first | exact heap_alloc_drew _ _ _ | exact heap_alloc_new _ _ | exact heap_alloc_drew' _ _ _ _ (by simp) | exact heap_alloc_new' _ _ _ _ (by simp))).mono ?_); rintro e w' ⟨rfl, rfl⟩) | (go_at_call 11; (with_reducible refine (AL4.out _ _ (by exact (by assumption : _ ∧ _ ∧ Hid _).2.2) (by first | exact heap_alloc_drew _ _ _ | exact heap_alloc_new _ _ | exact heap_alloc_drew' _ _ _ _ (by simp) | exact heap_alloc_new' _ _ _ _ (by simp))).mono ?_); rintro e w' ⟨rfl, rfl⟩) | (go_at_call 32; (with_reducible refine (span_any _ _ _).mono ?_); rintro e w' ⟨rfl, rfl⟩))
  have hq := (by assumption : _ ∧ _ ∧ Hid _)
  have HQ := hq.2.2
  clear hq AL0 AL1 AL2 AL3 AL4 HBS hS
  have HR : Hid (Below w.heap.size w w7) := HH7.out.1
  clear HH7
  go_wp2_with fail
  refine (row_any _).mono ?_
  rintro e r8 ⟨n8, rfl, hc, hb⟩
  have HR8 : Hid (Below w.heap.size w r8) := HR.out.trans ((HQ.out.trans (hb.mono HQ.out.size)).mono HR.out.size)
  have HC8 := Lib.hid hc
  clear HR HQ hb hc
  go_wp2_with fail
  have hX : ∀ X, (((r8.alloc (.cells #[.slice (some ⟨r8.heap.size + 1, 0, none⟩) 3 3, .slice (some ⟨n8 + 1 + 1, 0, none⟩) 3 3, .slice (some ⟨n8 + 1 + 1 + 1, 0, none⟩) 2 2, .slice (some ⟨n8 + 1 + 1 + 1 + 1 + 1 + 1, 0, none⟩) 2 2] 26)).alloc (.cells #[.int .i64 1, .int .i64 4, .int .i64 2] 3)).alloc (.cells #[.int .i64 0, .int .i64 2] 3)) = X → ColAt X X.heap.size (.slice (some ⟨r8.heap.size + 1, 0, none⟩) 3 3) (.slice (some ⟨n8 + 1 + 1, 0, none⟩) 3 3) (.slice (some ⟨n8 + 1 + 1 + 1, 0, none⟩) 2 2) (.slice (some ⟨n8 + 1 + 1 + 1 + 1 + 1 + 1, 0, none⟩) 2 2) smallC ∧ IsInts X X.heap.size (.slice (some ⟨r8.heap.size + 1 + 1, 0, none⟩) 2 2) [0, 2] ∧ X.heap[r8.heap.size]? = some (.cells #[.slice (some ⟨r8.heap.size + 1, 0, none⟩) 3 3, .slice (some ⟨n8 + 1 + 1, 0, none⟩) 3 3, .slice (some ⟨n8 + 1 + 1 + 1, 0, none⟩) 2 2, .slice (some ⟨n8 + 1 + 1 + 1 + 1 + 1 + 1, 0, none⟩) 2 2] 26 (0, 0)) ∧ Below r8.heap.size r8 X := by
    intro X hX
    have hb : Below r8.heap.size r8 X := by rw [← hX]; exact (((Below.refl _ r8).alloc (Nat.le_refl _) _).alloc (by simp) _).alloc (by simp; omega) _
    have h0 : X.heap[r8.heap.size]? = some (.cells #[.slice (some ⟨r8.heap.size + 1, 0, none⟩) 3 3, .slice (some ⟨n8 + 1 + 1, 0, none⟩) 3 3, .slice (some ⟨n8 + 1 + 1 + 1, 0, none⟩) 2 2, .slice (some ⟨n8 + 1 + 1 + 1 + 1 + 1 + 1, 0, none⟩) 2 2] 26 (0, 0)) := by rw [← hX]; exact keep _ (keep _ (blk _ _ _ _ rfl))
    have h1 : X.heap[r8.heap.size + 1]? = some (.cells (intsV [1, 4, 2]).toArray 3 (0, 0)) := by rw [← hX]; exact keep _ (blk _ _ _ _ (by simp))
    have h2 : X.heap[r8.heap.size + 1 + 1]? = some (.cells (intsV [0, 2]).toArray 3 (0, 0)) := by rw [← hX]; exact blk _ _ _ _ (by simp)
    have hc := HC8.out.on hb
    exact ⟨⟨ints_of_cells h1 rfl (i64_small (by decide)) (by decide), hc.2.1, hc.2.2.1, hc.2.2.2⟩, ints_of_cells h2 rfl (i64_small (by decide)) (by decide), h0, hb⟩
  obtain ⟨X, hX2⟩ : ∃ X, (((r8.alloc (.cells #[.slice (some ⟨r8.heap.size + 1, 0, none⟩) 3 3, .slice (some ⟨n8 + 1 + 1, 0, none⟩) 3 3, .slice (some ⟨n8 + 1 + 1 + 1, 0, none⟩) 2 2, .slice (some ⟨n8 + 1 + 1 + 1 + 1 + 1 + 1, 0, none⟩) 2 2] 26)).alloc (.cells #[.int .i64 1, .int .i64 4, .int .i64 2] 3)).alloc (.cells #[.int .i64 0, .int .i64 2] 3)) = X := ⟨_, rfl⟩
  have HX := Lib.hid (hX X hX2)
  rw [hX2]
  clear hX hX2 HC8
  have hcon := Short_good smallC _ _ _ _ _ [0, 2] X HX.out.1 HX.out.2.1 small_short.1
  rw [small_short.2] at hcon
  have HCON := Lib.hid hcon
  clear hcon
  refine HCON.out.mono ?_
  rintro e w9 ⟨rfl, hb2⟩
  have hb9 := blk_on HX.out.2.2.1 hb2
  have d0 := (cell_of_row w9 _ 0 _ _ _ hb9).trans rfl
  have d1 := (cell_of_row w9 _ 1 _ _ _ hb9).trans rfl
  have d2 := (cell_of_row w9 _ 2 _ _ _ hb9).trans rfl
  have d3 := (cell_of_row w9 _ 3 _ _ _ hb9).trans rfl
  have hcon2 := Rats_bad smallC _ _ _ _ w9 (HX.out.1.on hb2) (by rw [small_fit]; decide)
  rw [small_fit] at hcon2
  have HCON2 := Lib.hid hcon2
  have HR9 : Hid (Below w.heap.size w w9) := HR8.out.trans ((HX.out.2.2.2.trans (hb2.mono HX.out.2.2.2.size)).mono HR8.out.size)
  clear hb9 hcon2 hb2 HX HR8 HCON
  go_wp2_with fail
  refine HCON2.out.mono ?_
  rintro e w10 ⟨rfl, hb2⟩
  have HH10 : Hid (Below w.heap.size w w10) := HR9.out.trans (hb2.mono HR9.out.size)
  clear hb2 HR9 HCON2 d0 d1 d2 d3
  go_wp2_with fail
  refine (row_any _).mono ?_
  rintro e r11 ⟨n11, rfl, hc, hb⟩
  have HR11 : Hid (Below w.heap.size w r11) := HH10.out.trans (hb.mono HH10.out.size)
  have hbn : Below r11.heap.size r11 (r11.alloc (.cells #[.int .i64 2, .int .i64 1] 3)) := (Below.refl _ _).alloc (Nat.le_refl _) _
  have hcon := Gone_good rowC _ _ _ _ _ [2, 1] _ (hc.on hbn) (ints_of_cells (l := [2, 1]) (heap_alloc_new r11 (.cells #[.int .i64 2, .int .i64 1] 3)) rfl (i64_small (by decide)) (by decide)) row_gone.1
  rw [row_goneB] at hcon
  have HCON := Lib.hid hcon
  have HBN := Lib.hid hbn
  clear hcon hbn hb hc HH10
  go_wp2_with fail
  refine HCON.out.mono ?_
  rintro e w11 ⟨rfl, hb2⟩
  have HH11 : Hid (Below w.heap.size w w11) := HR11.out.trans ((HBN.out.trans (hb2.mono HBN.out.size)).mono HR11.out.size)
  clear hb2 HBN HR11 HCON
  go_wp2_with fail
  refine (row_any _).mono ?_
  rintro e r12 ⟨n12, rfl, hc, hb⟩
  have hcon := Reaches_good rowC _ _ _ _ 0 1 _ hc row_reach.1
  rw [show (0 : Int).toNat = 0 from rfl, show (1 : Int).toNat = 1 from rfl, row_reach.2] at hcon
  have HCON := Lib.hid hcon
  have HB := Lib.hid hb
  clear hcon hb hc
  go_wp2_with fail
  refine HCON.out.mono ?_
  rintro e w12 ⟨v12, rfl, hv, hb2⟩
  have hbc : Below w11.heap.size w11 w12 := HB.out.trans (hb2.mono HB.out.size)
  have HH12 : Hid (Below w.heap.size w w12 ∧ IsInts w12 w12.heap.size v12 [0, 1]) := ⟨HH11.out.trans (hbc.mono HH11.out.size), hv⟩
  clear HCON HB hb2 hbc HH11 hv
  go_wp2_with fail
  refine (row_any _).mono ?_
  rintro e r13 ⟨n13, rfl, hc, hb⟩
  have hcon := Grow_ok rowC _ _ _ _ 50 2 _ hc row_grow.1
  rw [row_grow.2] at hcon
  have HCON := Lib.hid hcon
  have HB := Lib.hid hb
  clear hcon hb hc
  go_wp2_with fail
  refine HCON.out.mono ?_
  rintro e w13 ⟨rfl, hb2⟩
  have hbc : Below w12.heap.size w12 w13 := HB.out.trans (hb2.mono HB.out.size)
  have HH13 : Hid (Below w.heap.size w w13 ∧ IsInts w13 w13.heap.size v12 [0, 1]) := ⟨HH12.out.1.trans (hbc.mono HH12.out.1.size), HH12.out.2.on hbc⟩
  clear HCON HB hb2 hbc HH12
  go_wp2_with fail
  have hnew : (w13.alloc (.cells #[.int .i64 0, .int .i64 9] 59)).heap[w13.heap.size]? = some (.cells #[.int .i64 0, .int .i64 9] 59 (0, 0)) := heap_alloc_new _ _
  have hbc : Below w13.heap.size w13 (w13.alloc (.cells #[.int .i64 0, .int .i64 9] 59)) := (Below.refl _ _).alloc (Nat.le_refl _) _
  obtain ⟨A13, hW⟩ : ∃ A13, w13.alloc (.cells #[.int .i64 0, .int .i64 9] 59) = A13 := ⟨_, rfl⟩
  rw [hW] at hnew hbc ⊢
  clear hW
  have HA13 : Hid (Below w.heap.size w A13 ∧ IsInts A13 A13.heap.size v12 [0, 1] ∧ A13.heap[w13.heap.size]? = some (.cells #[.int .i64 0, .int .i64 9] 59 (0, 0))) := ⟨HH13.out.1.trans (hbc.mono HH13.out.1.size), HH13.out.2.on hbc, hnew⟩
  clear hnew hbc HH13
  have hbs : w13.heap.size < A13.heap.size := (Array.getElem?_eq_some_iff.1 HA13.out.2.2).1
  have AL0 := Lib.hid (alike_here HA13.out.2.1 [0, 1] (by decide) rfl #[.int .i64 0, .int .i64 1] rfl 2 rfl (by decide))
  have hc0 : A13.cell? ⟨w13.heap.size, 0, none⟩ = some (.int .i64 0) := (cell_of_row _ _ 0 _ _ _ HA13.out.2.2).trans rfl
  have hc1 : A13.cell? ⟨w13.heap.size, 1, none⟩ = some (.int .i64 9) := (cell_of_row _ _ 1 _ _ _ HA13.out.2.2).trans rfl
  have hS : A13.drew.cell? ⟨w13.heap.size, 0, none⟩ = some (.int .i64 0) ∧ A13.drew.cell? ⟨w13.heap.size, 1, none⟩ = some (.int .i64 9) ∧ Hid (Below A13.heap.size A13 A13.drew) := ⟨hc0, hc1, (Below.refl _ _).drew⟩
  have HBS := Lib.hid hbs
  clear hbs hc0 hc1
  go_region_held3 (fun w' => w'.cell? ⟨w13.heap.size, 0, none⟩ = some (.int .i64 0) ∧ w'.cell? ⟨w13.heap.size, 1, none⟩ = some (.int .i64 9) ∧ Hid (Below A13.heap.size A13 w')) (first | assumption | exact aws_alloc HBS.out (by assumption) | exact aws_below HBS.out (by assumption) (by assumption))
    (first | (go_at_call 11; (with_reducible refine (AL0.out _ _ (by exact (by assumption : _ ∧ _ ∧ Hid _).2.2) (by first | exact heap_alloc_drew _ _ _ | exact heap_alloc_new _ _ | exact heap_alloc_drew' _ _ _ _ (by simp) | exact heap_alloc_new' _ _ _ _ (by simp))).mono ?_); rintro e w' ⟨rfl, rfl⟩) | (go_at_call 32; (with_reducible refine (span_any _ _ _).mono ?_); rintro e w' ⟨rfl, rfl⟩))
  have hq := (by assumption : _ ∧ _ ∧ Hid _)
  have HQ := hq.2.2
  clear hq AL0 HBS hS
  have HR : Hid (Below w.heap.size w A13) := HA13.out.1
  clear HA13
  go_wp2_with fail
  go_ret
  exact ⟨rfl, HR.out.trans (HQ.out.mono HR.out.size)⟩
end Go.Proofs.YtnhifinfjfpoiaaGreat
