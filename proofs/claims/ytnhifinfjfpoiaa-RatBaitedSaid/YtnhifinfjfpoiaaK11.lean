/- What the walk of Made knows of memory, in one fact: parts that lie apart, the chute, and what has turned. The states of Made's walk: the setting up of a colony. The states of Made's walk: its nights. What Made gives. Contract of the statements' Made: the walk. -/
import Derived.Test.YtnhifinfjfpoiaaK10
import Derived.Test.YtnhifinfjfpoiaaK09
namespace Go.Proofs.Ytnhifinfjfpoiaa
open Go.RowKit
set_option linter.unusedVariables false

structure MW (p : Nat) (v : Value) (xs : List Int) (w W : World) (ps : List Part) : Prop where
  low : p < w.heap.size
  sep : Sep W w.heap.size ps
  chute : ChuteAt W p v xs
  turned : Turned p w W
section
variable {p : Nat} {v : Value} {xs : List Int} {w W W' : World} {ps ps' : List Part}
theorem MW.size (h : MW p v xs w W ps) : w.heap.size ≤ W.heap.size := h.turned.size
theorem MW.turn (h : MW p v xs w W ps) (hc : ChuteAt W' p v xs) (ht : Turned p W W') : MW p v xs w W' ps := ⟨h.low, h.sep.turned ht h.low, hc, h.turned.trans ht⟩
theorem MW.below (h : MW p v xs w W ps) (hb : Below W.heap.size W W') : MW p v xs w W' ps := ⟨h.low, h.sep.below hb, h.chute.below hb, h.turned.trans (Turned.of hb (Nat.le_refl _))⟩
theorem MW.drew (h : MW p v xs w W ps) : MW p v xs w W.drew ps := h.below (Below.refl _ _).drew
theorem MW.alloc (h : MW p v xs w W ps) (o : _) : MW p v xs w (W.alloc o) ps := h.below ((Below.refl _ _).alloc (Nat.le_refl _) o)
/-- What turns at the parts' own blocks. -/
theorem MW.hi (h : MW p v xs w W ps) (hb : Below w.heap.size W W') (hs : Sep W' w.heap.size ps') : MW p v xs w W' ps' :=
  ⟨h.low, hs, h.chute.low hb h.low, ⟨hb.os.trans h.turned.os, hb.tape.trans h.turned.tape, hb.output.trans h.turned.output, Nat.le_trans h.size hb.size, fun k hk hne => (hb.block k hk).trans (h.turned.block k hk hne)⟩⟩
theorem MW.at (h : MW p v xs w W ps) (i : Nat) {x : Part} (hi : ps[i]? = some x) : x.told W := h.sep.told i x hi
theorem MW.same (h : MW p v xs w W ps) (e : ps = ps') : MW p v xs w W ps' := e ▸ h
theorem MW.setBlk (h : MW p v xs w W ps) (i : Nat) {b t : Nat} {cs : Array Value} (hi : ps[i]? = some (pBlk b t cs)) (o : Nat) (x : Value) : MW p v xs w (W.setCell ⟨b, o, none⟩ x) (ps.set i (pBlk b t (cs.setIfInBounds o x))) :=
  h.hi ((Below.refl _ _).setCell (p := ⟨b, o, none⟩) (h.sep.lt i _ hi b rfl).1 _) (h.sep.setBlk h.size i hi o x)
theorem MW.setInt (h : MW p v xs w W ps) (i : Nat) {b n : Nat} {f : Nat → Int} (hi : ps[i]? = some (pInt b n f)) {o : Nat} (ho : o < n) (x : Int) : MW p v xs w (W.setCell ⟨b, o, none⟩ (.int .i64 x)) (ps.set i (pInt b n (fun j => if j = o then x else f j))) :=
  h.hi ((Below.refl _ _).setCell (p := ⟨b, o, none⟩) (h.sep.lt i _ hi b rfl).1 _) (h.sep.setInt h.size i hi ho x)
theorem MW.setMat (h : MW p v xs w W ps) (i : Nat) {g n : Nat} {nb : Nat → Nat} {M : Nat → Nat → Int} (hi : ps[i]? = some (pMat g n nb M)) {a o : Nat} (ha : a < n) (ho : o < n) (x : Int) : MW p v xs w (W.setCell ⟨nb a, o, none⟩ (.int .i64 x)) (ps.set i (pMat g n nb (setM M a o x))) :=
  h.hi ((Below.refl _ _).setCell (p := ⟨nb a, o, none⟩) (h.sep.lt i _ hi (nb a) (.inr ⟨a, ha, rfl⟩)).1 _) (h.sep.setMat h.size i hi ha ho x)
theorem MW.newBlk (h : MW p v xs w W ps) (t : Nat) (cs : Array Value) : MW p v xs w (W.alloc (.cells cs t)) (ps ++ [pBlk W.heap.size t cs]) :=
  h.hi ((Below.refl _ _).alloc h.size _) (h.sep.newBlk h.size t cs)
theorem MW.newRow (h : MW p v xs w W ps) (e sz : Nat) : MW p v xs w W (ps ++ [pRow w.heap.size e sz 0 (.slice none 0 0) []]) :=
  h.hi (Below.refl _ _) (h.sep.newRow h.size w.heap.size e sz)
/-- A new part that lies in what is new in W'. -/
theorem MW.push (h : MW p v xs w W ps) (x' : Part) (hb : Below W.heap.size W W') (ht : x'.told W') (hx : ∀ k, x'.foot k → W.heap.size ≤ k ∧ k < W'.heap.size) : MW p v xs w W' (ps ++ [x']) :=
  (h.below hb).hi (Below.refl _ _) (h.sep.push x' hb h.size ht hx)
/-- Part i read otherwise. -/
theorem MW.part (h : MW p v xs w W ps) (i : Nat) {x : Part} (hi : ps[i]? = some x) (x' : Part) (ht : x'.told W) (hx : ∀ k, x'.foot k → x.foot k) : MW p v xs w W (ps.set i x') :=
  h.hi (Below.refl _ _) (h.sep.set i hi x' (Nat.le_refl _) h.size (fun _ _ _ => rfl) ht (fun k hk => .inl (hx k hk)))
theorem MW.join (h : MW p v xs w W ps) (i j : Nat) {x y : Part} (hi : ps[i]? = some x) (hj : ps[j]? = some y) (hij : i ≠ j) : MW p v xs w W ((ps.set i (x.and y)).set j Part.none) :=
  h.hi (Below.refl _ _) (h.sep.join i j hi hj hij)
/-- Part i turns. -/
theorem MW.setPart (h : MW p v xs w W ps) (i : Nat) {x : Part} (hi : ps[i]? = some x) (x' : Part) (hb : Below w.heap.size W W') (hf : ∀ k, k < W.heap.size → ¬ x.foot k → W'.heap[k]? = W.heap[k]?) (ht : x'.told W') (hx : ∀ k, x'.foot k → x.foot k ∨ (W.heap.size ≤ k ∧ k < W'.heap.size)) : MW p v xs w W' (ps.set i x') :=
  h.hi hb (h.sep.set i hi x' hb.size h.size hf ht hx)
theorem Sep.left {W : World} {B : Nat} {ps qs : List Part} (h : Sep W B (ps ++ qs)) : Sep W B ps := by
  have key : ∀ (i : Nat) (x : Part), ps[i]? = some x → (ps ++ qs)[i]? = some x := fun i x hi => by
    rw [List.getElem?_append_left (List.getElem?_eq_some_iff.1 hi).1]; exact hi
  exact ⟨fun i x hi => h.told i x (key i x hi), fun i x hi => h.lt i x (key i x hi), fun i j x y hi hj => h.apart i j x y (key i x hi) (key j y hj)⟩
theorem MW.left {qs : List Part} (h : MW p v xs w W (ps ++ qs)) : MW p v xs w W ps := h.hi (Below.refl _ _) h.sep.left
theorem MW.grown (h : MW p v xs w W ps) (i : Nat) {B' e sz n : Nat} {u : Value} {l : List Value} (hi : ps[i]? = some (pRow B' e sz n u l)) (hB : w.heap.size ≤ B') {g m cap : Nat} {l' : List Value} (ho : W'.ownsRow B' e sz (.slice (some ⟨g, 0, none⟩) m cap) m l') (hg : W.grownBy W' u.ownBlock) (hor : u.ownBlock = some g ∨ g = W.heap.size) :
    MW p v xs w W' (ps.set i (pRow B' e sz m (.slice (some ⟨g, 0, none⟩) m cap) l')) :=
  h.hi (below_grown (Below.refl _ W) hg (fun r hr => Nat.le_trans hB ((h.at i hi).lt r hr).1) h.size) (h.sep.grown h.size i hi ho hg (hor.imp (fun e => e.symm) (fun e => by rw [e]; rfl)))
end
theorem pick_at (ps : List Part) (is : List Nat) {j : Nat} {x : Part} (h : (is.map fun i => (ps[i]?).getD Part.none)[j]? = some x) : ∃ i, is[j]? = some i ∧ (ps[i]? = some x ∨ (ps[i]? = none ∧ x = Part.none)) := by
  rw [List.getElem?_map] at h
  cases hj : is[j]? with
  | none => rw [hj] at h; cases h
  | some i =>
    rw [hj] at h
    simp only [Option.map_some, Option.some.injEq] at h
    refine ⟨i, rfl, ?_⟩
    cases hp : ps[i]? with
    | none => rw [hp] at h; exact .inr ⟨rfl, h.symm⟩
    | some y => rw [hp] at h; exact .inl (by rw [← h]; rfl)
theorem Sep.pick {W : World} {ps : List Part} {B : Nat} (h : Sep W B ps) (is : List Nat) (hn : is.Nodup) : Sep W B (is.map fun i => (ps[i]?).getD Part.none) := by
  refine ⟨fun j x hj => ?_, fun j x hj k hk => ?_, fun a b x y ha hb k hx hy => ?_⟩
  · obtain ⟨i, _, h1 | ⟨_, rfl⟩⟩ := pick_at ps is hj
    · exact h.told i x h1
    · exact trivial
  · obtain ⟨i, _, h1 | ⟨_, rfl⟩⟩ := pick_at ps is hj
    · exact h.lt i x h1 k hk
    · exact hk.elim
  · obtain ⟨i, hi, h1 | ⟨_, rfl⟩⟩ := pick_at ps is ha
    · obtain ⟨j, hj, h2 | ⟨_, rfl⟩⟩ := pick_at ps is hb
      · have e := h.apart i j x y h1 h2 k hx hy
        subst e
        obtain ⟨la, ea⟩ := List.getElem?_eq_some_iff.1 hi
        obtain ⟨lb, eb⟩ := List.getElem?_eq_some_iff.1 hj
        have hp := List.pairwise_iff_getElem.1 hn
        rcases Nat.lt_trichotomy a b with q | q | q
        · exact absurd (ea.trans eb.symm) (hp a b la lb q)
        · exact q
        · exact absurd (eb.trans ea.symm) (hp b a lb la q)
      · exact hy.elim
    · exact hx.elim
theorem intsV_snoc (l : List Int) (y : Int) : intsV (l ++ [y]) = intsV l ++ [.int .i64 y] := by simp [intsV]
theorem pairsV_snoc (l : List (Int × Int)) (r : Int × Int) : pairsV (l ++ [r]) = pairsV l ++ [.int .i64 r.1, .int .i64 r.2] := by rw [pairsV_app]; rfl
theorem Till.done {st : List Nat} {C : World → Prop} {l : Array Bool} {W : World} (h : (st.any fun j => l.getD j true) = true) : Till st C l W := fun hl => by
  obtain ⟨j, hj, hv⟩ := List.any_eq_true.1 h
  rw [hl j hj] at hv; cases hv

set_option linter.unusedSectionVars false in
theorem MW.step_int {p : Nat} {v : Value} {xs : List Int} {w W : World} {ps : List Part} (h : MW p v xs w W ps) (i : Nat) {n : Nat} {u : Value} (l : List Int) (y : Int) (hi : ps[i]? = some (pRow w.heap.size 3 1 n u (intsV l))) (hn : n ≤ 1000)
    {ops : Array Oper} {o : Oper} {a : Act} {Q : Exit → Act → World → Prop} {K : Act → World → Prop} {E : Prop} (hgd : o.guard = none) (s x : Operand) (ho : o.op = .call { callee := .builtin .append, args := #[s, x], argTypes := #[22, 22] }) (hs : a.eval s = u) (gb : Nat) (hx : a.eval x = .slice (some ⟨gb, 0, none⟩) 1 1)
    (hc : ∀ (j : Nat) (z : Value), ([.int .i64 y] : List Value)[j]? = some z → W.cell? ((⟨gb, 0, none⟩ : Addr).add j) = some z)
    (hk : ∀ g cap w', MW p v xs w w' (ps.set i (pRow w.heap.size 3 1 (n + 1) (.slice (some ⟨g, 0, none⟩) (n + 1) cap) (intsV (l ++ [y])))) → Below w.heap.size W w' → W.grownBy w' u.ownBlock → K (a.put o.dst (.slice (some ⟨g, 0, none⟩) (n + 1) cap)) w') :
    if Region.wanted o (yielded ops a.tmps) = true then Oper.wp Try.prog o a W K Q else E := by
  obtain ⟨i0, hif, hz0, hz1, hz2⟩ := info_parts infoInt
  exact step_append_lies W hgd s x 22 ho w.heap.size 3 i0 (.int .i64 0) 1 8 Try.underlying22 hif hz0 hz1 hz2 rfl (by decide) u n (intsV l) hs (h.at i hi) ⟨gb, 0, none⟩ 1 1 [.int .i64 y] hx rfl hc (fun u hu => by simp at hu; subst hu; rfl) (by omega) (by unfold maxLen; omega) (by omega) h.size W.heap.size rfl (fun g cap w' ho hg hor _ =>
    hk g cap w' (h.grown i hi (Nat.le_refl _) (by rw [intsV_snoc]; exact ho) hg hor) (below_grown (Below.refl _ W) hg (fun r hr => ((h.at i hi).lt r hr).1) h.size) hg)

set_option linter.unusedSectionVars false in
theorem MW.list_int {p : Nat} {v : Value} {xs : List Int} {w W : World} {ps : List Part} (h : MW p v xs w W ps) (i : Nat) {n : Nat} {u : Value} (l : List Int) (y : Int) (hi : ps[i]? = some (pRow w.heap.size 3 1 n u (intsV l))) (hn : n ≤ 1000)
    {ops : Array Oper} {o : Oper} {a : Act} {Q : Exit → Act → World → Prop} {rest : List Oper} (hgd : o.guard = none) (s x : Operand) (ho : o.op = .call { callee := .builtin .append, args := #[s, x], argTypes := #[22, 22] }) (hs : a.eval s = u) (gb : Nat) (hx : a.eval x = .slice (some ⟨gb, 0, none⟩) 1 1)
    (hc : ∀ (j : Nat) (z : Value), ([.int .i64 y] : List Value)[j]? = some z → W.cell? ((⟨gb, 0, none⟩ : Addr).add j) = some z)
    (hk : ∀ g cap w', MW p v xs w w' (ps.set i (pRow w.heap.size 3 1 (n + 1) (.slice (some ⟨g, 0, none⟩) (n + 1) cap) (intsV (l ++ [y])))) → Below w.heap.size W w' → W.grownBy w' u.ownBlock → wpList Try.prog ops Q rest (a.put o.dst (.slice (some ⟨g, 0, none⟩) (n + 1) cap)) w') :
    wpList Try.prog ops Q (o :: rest) a W := by
  obtain ⟨i0, hif, hz0, hz1, hz2⟩ := info_parts infoInt
  exact wpList_append_lies W hgd s x 22 ho w.heap.size 3 i0 (.int .i64 0) 1 8 Try.underlying22 hif hz0 hz1 hz2 rfl (by decide) u n (intsV l) hs (h.at i hi) ⟨gb, 0, none⟩ 1 1 [.int .i64 y] hx rfl hc (fun u hu => by simp at hu; subst hu; rfl) (by omega) (by unfold maxLen; omega) (by omega) h.size W.heap.size rfl (fun g cap w' ho hg hor _ =>
    hk g cap w' (h.grown i hi (Nat.le_refl _) (by rw [intsV_snoc]; exact ho) hg hor) (below_grown (Below.refl _ W) hg (fun r hr => ((h.at i hi).lt r hr).1) h.size) hg)

set_option linter.unusedSectionVars false in
theorem MW.step_pair {p : Nat} {v : Value} {xs : List Int} {w W : World} {ps : List Part} (h : MW p v xs w W ps) (i : Nat) {n : Nat} {u : Value} (l : List (Int × Int)) (y : Int × Int) (hi : ps[i]? = some (pRow w.heap.size 63 2 n u (pairsV l))) (hn : n ≤ 1000)
    {ops : Array Oper} {o : Oper} {a : Act} {Q : Exit → Act → World → Prop} {K : Act → World → Prop} {E : Prop} (hgd : o.guard = none) (s x : Operand) (ho : o.op = .call { callee := .builtin .append, args := #[s, x], argTypes := #[23, 23] }) (hs : a.eval s = u) (gb : Nat) (hx : a.eval x = .slice (some ⟨gb, 0, none⟩) 1 1)
    (hc : ∀ (j : Nat) (z : Value), ([.int .i64 y.1, .int .i64 y.2] : List Value)[j]? = some z → W.cell? ((⟨gb, 0, none⟩ : Addr).add j) = some z)
    (hk : ∀ g cap w', MW p v xs w w' (ps.set i (pRow w.heap.size 63 2 (n + 1) (.slice (some ⟨g, 0, none⟩) (n + 1) cap) (pairsV (l ++ [y])))) → Below w.heap.size W w' → W.grownBy w' u.ownBlock → K (a.put o.dst (.slice (some ⟨g, 0, none⟩) (n + 1) cap)) w') :
    if Region.wanted o (yielded ops a.tmps) = true then Oper.wp Try.prog o a W K Q else E := by
  obtain ⟨i0, hif, hz0, hz1, hz2⟩ := info_parts infoRun
  exact step_append_lies W hgd s x 23 ho w.heap.size 63 i0 (.agg #[.int .i64 0, .int .i64 0]) 2 16 Try.underlying23 hif hz0 hz1 hz2 rfl (by decide) u n (pairsV l) hs (h.at i hi) ⟨gb, 0, none⟩ 1 1 [.int .i64 y.1, .int .i64 y.2] hx rfl hc (fun u hu => by simp at hu; rcases hu with rfl | rfl <;> rfl) (by omega) (by unfold maxLen; omega) (by omega) h.size W.heap.size rfl (fun g cap w' ho hg hor _ =>
    hk g cap w' (h.grown i hi (Nat.le_refl _) (by rw [pairsV_snoc]; exact ho) hg hor) (below_grown (Below.refl _ W) hg (fun r hr => ((h.at i hi).lt r hr).1) h.size) hg)

set_option linter.unusedSectionVars false in
theorem MW.list_pair {p : Nat} {v : Value} {xs : List Int} {w W : World} {ps : List Part} (h : MW p v xs w W ps) (i : Nat) {n : Nat} {u : Value} (l : List (Int × Int)) (y : Int × Int) (hi : ps[i]? = some (pRow w.heap.size 63 2 n u (pairsV l))) (hn : n ≤ 1000)
    {ops : Array Oper} {o : Oper} {a : Act} {Q : Exit → Act → World → Prop} {rest : List Oper} (hgd : o.guard = none) (s x : Operand) (ho : o.op = .call { callee := .builtin .append, args := #[s, x], argTypes := #[23, 23] }) (hs : a.eval s = u) (gb : Nat) (hx : a.eval x = .slice (some ⟨gb, 0, none⟩) 1 1)
    (hc : ∀ (j : Nat) (z : Value), ([.int .i64 y.1, .int .i64 y.2] : List Value)[j]? = some z → W.cell? ((⟨gb, 0, none⟩ : Addr).add j) = some z)
    (hk : ∀ g cap w', MW p v xs w w' (ps.set i (pRow w.heap.size 63 2 (n + 1) (.slice (some ⟨g, 0, none⟩) (n + 1) cap) (pairsV (l ++ [y])))) → Below w.heap.size W w' → W.grownBy w' u.ownBlock → wpList Try.prog ops Q rest (a.put o.dst (.slice (some ⟨g, 0, none⟩) (n + 1) cap)) w') :
    wpList Try.prog ops Q (o :: rest) a W := by
  obtain ⟨i0, hif, hz0, hz1, hz2⟩ := info_parts infoRun
  exact wpList_append_lies W hgd s x 23 ho w.heap.size 63 i0 (.agg #[.int .i64 0, .int .i64 0]) 2 16 Try.underlying23 hif hz0 hz1 hz2 rfl (by decide) u n (pairsV l) hs (h.at i hi) ⟨gb, 0, none⟩ 1 1 [.int .i64 y.1, .int .i64 y.2] hx rfl hc (fun u hu => by simp at hu; rcases hu with rfl | rfl <;> rfl) (by omega) (by unfold maxLen; omega) (by omega) h.size W.heap.size rfl (fun g cap w' ho hg hor _ =>
    hk g cap w' (h.grown i hi (Nat.le_refl _) (by rw [pairsV_snoc]; exact ho) hg hor) (below_grown (Below.refl _ W) hg (fun r hr => ((h.at i hi).lt r hr).1) h.size) hg)

set_option linter.unusedSectionVars false in
theorem MW.step_row {p : Nat} {v : Value} {xs : List Int} {w W : World} {ps : List Part} (h : MW p v xs w W ps) (i : Nat) {n : Nat} {u : Value} (l : List Value) (y : Value) (hi : ps[i]? = some (pRow w.heap.size 22 1 n u l)) (hn : n ≤ 1000) (hone : y.oneCell' = true)
    {ops : Array Oper} {o : Oper} {a : Act} {Q : Exit → Act → World → Prop} {K : Act → World → Prop} {E : Prop} (hgd : o.guard = none) (s x : Operand) (ho : o.op = .call { callee := .builtin .append, args := #[s, x], argTypes := #[24, 24] }) (hs : a.eval s = u) (gb : Nat) (hx : a.eval x = .slice (some ⟨gb, 0, none⟩) 1 1)
    (hc : ∀ (j : Nat) (z : Value), ([y] : List Value)[j]? = some z → W.cell? ((⟨gb, 0, none⟩ : Addr).add j) = some z)
    (hk : ∀ g cap w', MW p v xs w w' (ps.set i (pRow w.heap.size 22 1 (n + 1) (.slice (some ⟨g, 0, none⟩) (n + 1) cap) (l ++ [y]))) → Below w.heap.size W w' → W.grownBy w' u.ownBlock → K (a.put o.dst (.slice (some ⟨g, 0, none⟩) (n + 1) cap)) w') :
    if Region.wanted o (yielded ops a.tmps) = true then Oper.wp Try.prog o a W K Q else E := by
  obtain ⟨i0, hif, hz0, hz1, hz2⟩ := info_parts infoRow
  exact step_append_lies W hgd s x 24 ho w.heap.size 22 i0 (.slice none 0 0) 1 24 Try.underlying24 hif hz0 hz1 hz2 rfl (by decide) u n l hs (h.at i hi) ⟨gb, 0, none⟩ 1 1 [y] hx rfl hc (fun u hu => by simp at hu; subst hu; exact hone) (by omega) (by unfold maxLen; omega) (by omega) h.size W.heap.size rfl (fun g cap w' ho hg hor _ =>
    hk g cap w' (h.grown i hi (Nat.le_refl _) ho hg hor) (below_grown (Below.refl _ W) hg (fun r hr => ((h.at i hi).lt r hr).1) h.size) hg)

set_option linter.unusedSectionVars false in
theorem MW.list_row {p : Nat} {v : Value} {xs : List Int} {w W : World} {ps : List Part} (h : MW p v xs w W ps) (i : Nat) {n : Nat} {u : Value} (l : List Value) (y : Value) (hi : ps[i]? = some (pRow w.heap.size 22 1 n u l)) (hn : n ≤ 1000) (hone : y.oneCell' = true)
    {ops : Array Oper} {o : Oper} {a : Act} {Q : Exit → Act → World → Prop} {rest : List Oper} (hgd : o.guard = none) (s x : Operand) (ho : o.op = .call { callee := .builtin .append, args := #[s, x], argTypes := #[24, 24] }) (hs : a.eval s = u) (gb : Nat) (hx : a.eval x = .slice (some ⟨gb, 0, none⟩) 1 1)
    (hc : ∀ (j : Nat) (z : Value), ([y] : List Value)[j]? = some z → W.cell? ((⟨gb, 0, none⟩ : Addr).add j) = some z)
    (hk : ∀ g cap w', MW p v xs w w' (ps.set i (pRow w.heap.size 22 1 (n + 1) (.slice (some ⟨g, 0, none⟩) (n + 1) cap) (l ++ [y]))) → Below w.heap.size W w' → W.grownBy w' u.ownBlock → wpList Try.prog ops Q rest (a.put o.dst (.slice (some ⟨g, 0, none⟩) (n + 1) cap)) w') :
    wpList Try.prog ops Q (o :: rest) a W := by
  obtain ⟨i0, hif, hz0, hz1, hz2⟩ := info_parts infoRow
  exact wpList_append_lies W hgd s x 24 ho w.heap.size 22 i0 (.slice none 0 0) 1 24 Try.underlying24 hif hz0 hz1 hz2 rfl (by decide) u n l hs (h.at i hi) ⟨gb, 0, none⟩ 1 1 [y] hx rfl hc (fun u hu => by simp at hu; subst hu; exact hone) (by omega) (by unfold maxLen; omega) (by omega) h.size W.heap.size rfl (fun g cap w' ho hg hor _ =>
    hk g cap w' (h.grown i hi (Nat.le_refl _) ho hg hor) (below_grown (Below.refl _ W) hg (fun r hr => ((h.at i hi).lt r hr).1) h.size) hg)

end Go.Proofs.Ytnhifinfjfpoiaa

namespace Go.Proofs.Ytnhifinfjfpoiaa
open Go.RowKit
set_option linter.unusedVariables false

theorem nth_ahead {l : List Int} {x : Int} {i : Nat} (h : i < l.length) : nth (l ++ [x]) i = nth l i := by
  unfold nth; rw [List.getD_eq_getElem?_getD, List.getD_eq_getElem?_getD, List.getElem?_append_left h]
theorem nth_new (l : List Int) (x : Int) : nth (l ++ [x]) l.length = x := by unfold nth; simp

def setParts (B : Nat) (rv tv uv : Value) (hr hm n g : Nat) (rooms traps : List Int) (rs : List (Int × Int)) (nb : Nat → Nat) (M : Nat → Nat → Int) : List Part :=
  [pBlk B 26 #[.slice none 0 0, .slice none 0 0, .slice none 0 0, .slice none 0 0], pBlk (B + 1) 55 #[.slice none 0 0, .slice none 0 0], pBlk (B + 1 + 1) 26 #[rv, tv, uv, .slice none 0 0],
   pRow B 3 1 hr rv (intsV rooms), pRow B 3 1 hr tv (intsV traps), pRow B 63 2 rs.length uv (pairsV rs), pMatTo g n hm nb M]
theorem setParts_run {B : Nat} {rv tv uv uv' : Value} {hr hm n g : Nat} {rooms traps : List Int} {rs : List (Int × Int)} {nb : Nat → Nat} {M : Nat → Nat → Int} {r : Int × Int} {cs : Array Value} (hcs : cs = #[rv, tv, uv', .slice none 0 0]) :
    ((setParts B rv tv uv hr hm n g rooms traps rs nb M).set 5 (pRow B 63 2 (rs.length + 1) uv' (pairsV (rs ++ [r])))).set 2 (pBlk (B + 1 + 1) 26 cs) = setParts B rv tv uv' hr hm n g rooms traps (rs ++ [r]) nb M := by
  subst hcs; unfold setParts; simp
theorem setParts_run2 {B : Nat} {rv tv uv uv' : Value} {hr hm n g : Nat} {rooms traps : List Int} {rs : List (Int × Int)} {nb : Nat → Nat} {M : Nat → Nat → Int} {r : Int × Int} {cs : Array Value} {x : Part} (hcs : cs = #[rv, tv, uv', .slice none 0 0]) :
    ((setParts B rv tv uv hr hm n g rooms traps rs nb M ++ [x]).set 5 (pRow B 63 2 (rs.length + 1) uv' (pairsV (rs ++ [r])))).set 2 (pBlk (B + 1 + 1) 26 cs) = setParts B rv tv uv' hr hm n g rooms traps (rs ++ [r]) nb M ++ [x] := by
  subst hcs; unfold setParts; simp
structure SetIs (n hr hm : Nat) (A : List (Int × Int) → Prop) (rooms traps : List Int) (rs : List (Int × Int)) (M : Nat → Nat → Int) : Prop where
  lenR : rooms.length = hr
  lenT : traps.length = hr
  runs : A rs
  roomB : ∀ i, i < hr → 0 ≤ nth rooms i ∧ nth rooms i ≤ 8
  trapB : ∀ i, i < hr → 0 ≤ nth traps i ∧ nth traps i ≤ 3
  mat : ∀ a f, a < hm → f < n → (a ≠ f → M a f = 0) ∧ 0 ≤ M a f ∧ M a f ≤ nth rooms a
theorem SetIs.house {n h : Nat} {A : List (Int × Int) → Prop} {rooms traps : List Int} {rs : List (Int × Int)} {M : Nat → Nat → Int} (I : SetIs n h h A rooms traps rs M) {x y : Int} (hx : 0 ≤ x ∧ x ≤ 8) (hy : 0 ≤ y ∧ y ≤ 3) : SetIs n (h + 1) h A (rooms ++ [x]) (traps ++ [y]) rs M := by
  have l1 := I.lenR
  have l2 := I.lenT
  refine ⟨by simp [l1], by simp [l2], I.runs, fun i hi => ?_, fun i hi => ?_, fun a f ha hf => ?_⟩
  · by_cases e : i < h
    · rw [nth_ahead (by omega)]; exact I.roomB i e
    · obtain rfl : i = rooms.length := by omega
      rw [nth_new]; exact hx
  · by_cases e : i < h
    · rw [nth_ahead (by omega)]; exact I.trapB i e
    · obtain rfl : i = traps.length := by omega
      rw [nth_new]; exact hy
  · rw [nth_ahead (by omega)]; exact I.mat a f ha hf
theorem SetIs.runs' {n hr hm : Nat} {A A' : List (Int × Int) → Prop} {rooms traps : List Int} {rs rs' : List (Int × Int)} {M : Nat → Nat → Int} (I : SetIs n hr hm A rooms traps rs M) (h : A' rs') : SetIs n hr hm A' rooms traps rs' M := ⟨I.lenR, I.lenT, h, I.roomB, I.trapB, I.mat⟩
theorem SetIs.row {n h : Nat} {A : List (Int × Int) → Prop} {rooms traps : List Int} {rs : List (Int × Int)} {M : Nat → Nat → Int} (I : SetIs n (h + 1) h A rooms traps rs M) {x : Int} (hx : 0 ≤ x ∧ x ≤ nth rooms h) (f : Nat → Int) (hf : ∀ j, f j = if j = h then x else 0) : SetIs n (h + 1) (h + 1) A rooms traps rs (fun j => if j = h then f else M j) := by
  refine ⟨I.lenR, I.lenT, I.runs, I.roomB, I.trapB, fun a g ha hg => ?_⟩
  by_cases e : a = h
  · subst e
    simp only [if_pos, hf]
    by_cases q : g = a
    · subst q; simp; exact hx
    · rw [if_neg q]; have := hx.1; exact ⟨fun _ => rfl, Int.le_refl _, by omega⟩
  · simp only [if_neg e]; exact I.mat a g (by omega) hg
def MidAt (p n hr hm : Nat) (v : Value) (xs : List Int) (g : Nat) (w : World) (A : List (Int × Int) → Prop) (W : World) : Prop :=
  ∃ rv tv uv rooms traps rs nb M, SetIs n hr hm A rooms traps rs M ∧ MW p v xs w W (setParts w.heap.size rv tv uv hr hm n g rooms traps rs nb M)
/-- Between the two runs of house h. -/
def RunsMid (h : Nat) (rs : List (Int × Int)) : Prop := ∃ r0, RunsTo h (2 * h) r0 ∧ (rs = r0 ∨ ∃ x : Int, 0 ≤ x ∧ x < h ∧ rs = r0 ++ [((h : Int), x)])
theorem RunsMid.few {h : Nat} {rs : List (Int × Int)} (I : RunsMid h rs) : rs.length ≤ 2 * h + 1 := by
  obtain ⟨r0, h1, rfl | ⟨x, _, _, rfl⟩⟩ := I
  · have := h1.few; omega
  · have := h1.few; simp; omega
theorem RunsMid.i64 {h : Nat} {rs : List (Int × Int)} (I : RunsMid h rs) (hh : h ≤ 100) : ∀ q ∈ rs, I64 q.1 ∧ I64 q.2 := by
  have key : ∀ {k m : Nat} {l : List (Int × Int)}, RunsTo k m l → k ≤ 101 → ∀ q ∈ l, I64 q.1 ∧ I64 q.2 := fun {k m l} R hk q hq => by
    obtain ⟨i, hi, rfl⟩ := List.mem_iff_getElem.1 hq
    have := R.runs i hi
    rw [nthP_eq hi] at this
    unfold I64; omega
  obtain ⟨r0, h1, rfl | ⟨x, h2, h3, rfl⟩⟩ := I
  · exact key h1 (by omega)
  · exact key (h1.first ⟨h2, h3⟩) (by omega)
theorem RunsMid.skip {h : Nat} {rs : List (Int × Int)} (I : RunsMid h rs) : RunsTo (h + 1) (2 * (h + 1)) rs := by
  obtain ⟨r0, h1, rfl | ⟨x, h2, h3, rfl⟩⟩ := I
  · exact h1.mono (by omega) (by omega)
  · exact (h1.first ⟨h2, h3⟩).mono (Nat.le_refl _) (by omega)
theorem RunsMid.more {h : Nat} {rs : List (Int × Int)} (I : RunsMid h rs) {y : Int} (hy : 0 ≤ y ∧ y < h) (hn : turnB rs y h = false) : RunsTo (h + 1) (2 * (h + 1)) (rs ++ [(y, (h : Int))]) := by
  obtain ⟨r0, h1, rfl | ⟨x, h2, h3, rfl⟩⟩ := I
  · exact (h1.only hy).mono (Nat.le_refl _) (by omega)
  · exact (h1.second ⟨h2, h3⟩ hy hn).mono (Nat.le_refl _) (by omega)
theorem midAt_start {p n : Nat} {v : Value} {xs : List Int} {w w1 : World} (hp : p < w.heap.size) (hc : ChuteAt w1 p v xs) (w0 : World) (h0 : w0 = ((w.alloc (.cells #[.slice none 0 0, .slice none 0 0, .slice none 0 0, .slice none 0 0] 26)).alloc (.cells #[.slice none 0 0, .slice none 0 0] 55)).alloc (.cells #[.slice none 0 0, .slice none 0 0, .slice none 0 0, .slice none 0 0] 26)) (ht : Turned p w0 w1) :
    MidAt p n 0 0 v xs w1.heap.size w (RunsTo 0 0) (w1.alloc (.cells (Array.replicate n (.slice none 0 0)) 22)) := by
  have s1 := (((Sep.nil w w.heap.size).newBlk (Nat.le_refl _) 26 #[.slice none 0 0, .slice none 0 0, .slice none 0 0, .slice none 0 0]).newBlk (by simp) 55 #[.slice none 0 0, .slice none 0 0]).newBlk (by simp; omega) 26 #[.slice none 0 0, .slice none 0 0, .slice none 0 0, .slice none 0 0]
  rw [← h0] at s1
  have hsz : w0.heap.size = w.heap.size + 3 := by rw [h0]; simp
  have hs1 := ht.size
  have s2 := s1.turned ht hp
  have s3 := ((s2.newRow (by omega) w.heap.size 3 1).newRow (by omega) w.heap.size 3 1).newRow (by omega) w.heap.size 63 2
  have hbA : Below w1.heap.size w1 (w1.alloc (.cells (Array.replicate n (.slice none 0 0)) 22)) := (Below.refl _ _).alloc (Nat.le_refl _) _
  have s4 := s3.push (pMatTo w1.heap.size n 0 (fun _ => 0) (fun _ _ => 0)) hbA (by omega) (MatTo.start w1 n _ _) (fun k hk => by
    rcases hk with rfl | ⟨j, hj, _⟩
    · simp
    · omega)
  have hw0 : Turned p w w0 := by
    rw [h0]
    exact ⟨rfl, rfl, rfl, by simp; omega, fun k hk _ => by
      have hb : Below w.heap.size w (((w.alloc (.cells #[.slice none 0 0, .slice none 0 0, .slice none 0 0, .slice none 0 0] 26)).alloc (.cells #[.slice none 0 0, .slice none 0 0] 55)).alloc (.cells #[.slice none 0 0, .slice none 0 0, .slice none 0 0, .slice none 0 0] 26)) := (((Below.refl _ _).alloc (Nat.le_refl _) _).alloc (by simp) _).alloc (by simp; omega) _
      exact hb.block k hk⟩
  refine ⟨.slice none 0 0, .slice none 0 0, .slice none 0 0, [], [], [], fun _ => 0, fun _ _ => 0, ⟨rfl, rfl, RunsTo.nil _ _, fun i hi => by omega, fun i hi => by omega, fun a f ha => by omega⟩, hp, ?_, hc.below hbA, (hw0.trans ht).trans ⟨rfl, rfl, rfl, hbA.size, fun k hk _ => hbA.block k hk⟩⟩
  simp only [World.size_alloc] at s4
  exact s4
def Box2 (b : Nat) (x y : Value) (W : World) : Prop := W.cell? ⟨b, 0, none⟩ = some x ∧ W.cell? ⟨b, 1, none⟩ = some y
theorem box_of {b t : Nat} {x y z u : Value} {W : World} (h : (pBlk b t #[x, y, z, u]).told W) : Box2 b x y W := let ⟨a, c, _⟩ := four_at h; ⟨a, c⟩
def Box1 (b o : Nat) (x : Value) (W : World) : Prop := W.cell? ⟨b, o, none⟩ = some x ∧ True
theorem box1_of {b t o : Nat} {cs : Array Value} {x : Value} {W : World} (h : (pBlk b t cs).told W) (hx : cs[o]? = some x) : Box1 b o x W := ⟨(cell_of_row _ _ _ _ _ _ h).trans hx, trivial⟩
def Box3 (bx g r br h n : Nat) (rv rm : Value) (W : World) : Prop := W.cell? ⟨bx, 0, none⟩ = some rv ∧ W.cell? ⟨g, h, none⟩ = some (.slice (some ⟨r, 0, none⟩) n n) ∧ W.cell? ⟨br, h, none⟩ = some rm
def Box6 (bx bt : Nat) (a b c d e f : Value) (W : World) : Prop := W.cell? ⟨bx, 0, none⟩ = some a ∧ W.cell? ⟨bx, 1, none⟩ = some b ∧ W.cell? ⟨bx, 2, none⟩ = some c ∧ W.cell? ⟨bx, 3, none⟩ = some d ∧ W.cell? ⟨bt, 0, none⟩ = some e ∧ W.cell? ⟨bt, 1, none⟩ = some f
theorem box6_of {bx bt t u : Nat} {a b c d e f : Value} {W : World} (h : (pBlk bx t #[a, b, c, d]).told W) (h2 : (pBlk bt u #[e, f]).told W) : Box6 bx bt a b c d e f W := let ⟨h0, h1, h2', h3⟩ := four_at h; let ⟨g0, g1⟩ := two_at h2; ⟨h0, h1, h2', h3, g0, g1⟩
theorem box_free {b t : Nat} {cs : Array Value} {W : World} (h : (pBlk b t cs).told W) (o : Nat) : W.frozen? ⟨b, o, none⟩ = false := frozen_of_row _ _ _ _ _ h
theorem MatTo.gne {w : World} {g n h : Nat} {nb : Nat → Nat} {M : Nat → Nat → Int} (H : MatTo w g n h nb M) {j : Nat} (hj : j < h) : nb j ≠ g := by
  obtain ⟨A, h1, _⟩ := H.head
  exact (H.row j hj).cell_ne h1 (by decide)
theorem MatTo.set {w : World} {g n h : Nat} {nb : Nat → Nat} {M : Nat → Nat → Int} (H : MatTo w g n h nb M) {i j : Nat} (x : Int) (hi : i < h) (hj : j < n) : MatTo (w.setCell ⟨nb i, j, none⟩ (.int .i64 x)) g n h nb (setM M i j x) := by
  have hg := H.gne hi
  obtain ⟨A, h1, h2⟩ := H.head
  refine ⟨⟨A, (Below.heap_setCell _ _ _ _ hg.symm).trans h1, h2⟩, fun a ha => ?_, H.inj⟩
  by_cases e : a = i
  · subst e
    exact ((H.row a ha).set x hj).same fun b hb => by simp [setM]
  · have hne : nb a ≠ nb i := fun h' => e (H.inj a i ha hi h')
    exact ((H.row a ha).eq (Below.heap_setCell _ _ _ _ hne)).same fun b hb => by simp [setM, e]
theorem zeros_blk {W : World} {b n : Nat} (h : W.heap[b]? = some (.cells (intsV (List.replicate n 0)).toArray 3 (0, 0))) : IntBlk W b n (fun _ => 0) :=
  ⟨_, h, by simp [intsV], fun j hj => by simp [intsV, hj]⟩
section
variable {p n hr h g : Nat} {v rv tv uv : Value} {xs : List Int} {w W : World} {rooms traps : List Int} {rs : List (Int × Int)} {nb : Nat → Nat} {M : Nat → Nat → Int}
/-- A row more, all noughts. -/
theorem MW.rowNew (H : MW p v xs w W (setParts w.heap.size rv tv uv hr h n g rooms traps rs nb M)) (hh : h < n) :
    MW p v xs w ((W.alloc (.cells (intsV (List.replicate n 0)).toArray 3)).setCell ⟨g, h, none⟩ (.slice (some ⟨W.heap.size, 0, none⟩) n n)) (setParts w.heap.size rv tv uv hr (h + 1) n g rooms traps rs (fun j => if j = h then W.heap.size else nb j) (fun j => if j = h then (fun _ => 0) else M j)) := by
  have hM : MatTo W g n h nb M := H.at 6 rfl
  have hg := H.sep.lt 6 _ rfl g (.inl rfl)
  have hbA : Below W.heap.size W (W.alloc (.cells (intsV (List.replicate n 0)).toArray 3)) := (Below.refl _ _).alloc (Nat.le_refl _) _
  refine H.setPart 6 rfl (pMatTo g n (h + 1) (fun j => if j = h then W.heap.size else nb j) (fun j => if j = h then (fun _ => 0) else M j)) (((Below.refl _ _).alloc H.size _).setCell (p := ⟨g, h, none⟩) hg.1 _) (fun k hk hne => ?_) ?_ (fun k hk => ?_)
  · exact (Below.heap_setCell _ _ _ _ (fun e => hne (.inl e))).trans (hbA.block k hk)
  · refine hM.row_more hh (fun j hj => ?_) (fun j hj => ?_) (zeros_blk ?_) (fun A hA => ?_)
    · exact (Below.heap_setCell _ _ _ _ (hM.gne hj)).trans (hbA.block _ (hM.row j hj).lt)
    · have := (hM.row j hj).lt; omega
    · exact (Below.heap_setCell _ _ _ _ (show W.heap.size ≠ g by omega)).trans (heap_alloc_new _ _)
    · exact heap_setCell_same _ g h _ _ _ ((hbA.block g hg.2).trans hA)
  · rcases hk with rfl | ⟨j, hj, rfl⟩
    · exact .inl (.inl rfl)
    · by_cases e : j = h
      · right; subst e; simp
      · left; simp only [if_neg e]; exact .inr ⟨j, by omega, rfl⟩
/-- A number set in the matrix under way. -/
theorem MW.setTo (H : MW p v xs w W (setParts w.heap.size rv tv uv hr h n g rooms traps rs nb M)) {a o : Nat} (ha : a < h) (ho : o < n) (x : Int) :
    MW p v xs w (W.setCell ⟨nb a, o, none⟩ (.int .i64 x)) (setParts w.heap.size rv tv uv hr h n g rooms traps rs nb (setM M a o x)) := by
  have hM : MatTo W g n h nb M := H.at 6 rfl
  have hg := H.sep.lt 6 _ rfl (nb a) (.inr ⟨a, ha, rfl⟩)
  exact H.setPart 6 rfl (pMatTo g n h nb (setM M a o x)) ((Below.refl _ _).setCell (p := ⟨nb a, o, none⟩) hg.1 _) (fun k hk hne => Below.heap_setCell _ _ _ _ (fun e => hne (.inr ⟨a, ha, e⟩))) (hM.set x ha ho) (fun k hk => .inl hk)
end
theorem int_row_cells {W : World} {B n : Nat} {v : Value} {l : List Int} (h : W.ownsRow B 3 1 v n (intsV l)) (hl : l.length = n) (h0 : 0 < n) : ∃ b c, v = .slice (some ⟨b, 0, none⟩) n c ∧ n ≤ c ∧ ∀ j, j < n → W.cell? ⟨b, j, none⟩ = some (.int .i64 (nth l j)) := by
  obtain ⟨_, h1 | ⟨g, cap, cur, e, _, hg, hn, hm, hs, ht⟩⟩ := h
  · omega
  · have hB := IntBlk.of_owns (f := nth l) (w := W) (B := B) (g := g) (n := n) (q := cap) (l := l) ⟨‹_›, .inr ⟨g, cap, cur, rfl, ‹_›, hg, hn, hm, hs, ht⟩⟩ hl (fun j _ => rfl)
    exact ⟨g, cap, e, hn, fun j hj => hB.cell hj⟩
end Go.Proofs.Ytnhifinfjfpoiaa

namespace Go.Proofs.Ytnhifinfjfpoiaa
open Go.RowKit
set_option linter.unusedVariables false
set_option linter.unusedSectionVars false

def nightParts (B : Nat) (rv tv uv nv : Value) (n g : Nat) (rooms traps : List Int) (rs : List (Int × Int)) (nb : Nat → Nat) (M : Nat → Nat → Int) (bt : Nat) (cv lv : Value) (nbN : Nat → Nat) (N : List (List Int)) (nbT : Nat → Nat) (T : List (List Int)) : List Part :=
  [pBlk B 26 #[.slice none 0 0, .slice none 0 0, .slice none 0 0, .slice none 0 0], pBlk (B + 1) 55 #[.slice none 0 0, .slice none 0 0], pBlk (B + 1 + 1) 26 #[rv, tv, uv, nv],
   pRow B 3 1 n rv (intsV rooms), pRow B 3 1 n tv (intsV traps), pRow B 63 2 rs.length uv (pairsV rs), pMat g n nb M, pBlk bt 55 #[cv, lv], pRows B n nv nbN N, pRows B n cv nbT T]
section
variable {p : Nat} {v : Value} {xs : List Int} {w W W' : World} {ps ps' : List Part}
/-- The rats ran. -/
theorem MW.ran (H : MW p v xs w W ps) (i : Nat) {g n : Nat} {nb : Nat → Nat} {M : Nat → Nat → Int} (hi : ps[i]? = some (pMat g n nb M)) {g' : Nat} {nb' : Nat → Nat} {M' : Nat → Nat → Int}
    (hm : MatAt W' g' n nb' M') (hg : W.heap.size ≤ g') (hn : ∀ j, j < n → W.heap.size ≤ nb' j) (hc : ChuteAt W' p v xs) (hf : RunFrame W p n nb W') : MW p v xs w W' (ps.set i (pMat g' n nb' M')) := by
  have hlow := H.low
  have hge := fun j hj => (H.sep.lt i _ hi (nb j) (.inr ⟨j, hj, rfl⟩)).1
  refine ⟨H.low, H.sep.set' i hi (pMat g' n nb' M') hf.size H.size (fun k h0 hk hne => hf.block k hk (by omega) (fun j hj e => hne (.inr ⟨j, hj, e⟩))) hm (fun k hk => .inr ?_), hc, ?_⟩
  · rcases hk with rfl | ⟨j, hj, rfl⟩
    · exact ⟨hg, hm.glt⟩
    · exact ⟨hn j hj, (hm.row j hj).lt⟩
  · exact ⟨hf.os.trans H.turned.os, hf.tape.trans H.turned.tape, hf.output.trans H.turned.output, Nat.le_trans H.size hf.size, fun k hk hne => (hf.block k (Nat.lt_of_lt_of_le hk H.size) hne (fun j hj e => by have := hge j hj; omega)).trans (H.turned.block k hk hne)⟩
theorem MW.newRows (H : MW p v xs w W ps) (n : Nat) : MW p v xs w W (ps ++ [pRows w.heap.size n (.slice none 0 0) (fun _ => 0) []]) :=
  H.push _ (Below.refl _ _) ⟨⟨[], World.ownsRow_nil _ _ _ _, fun j hj => by simp at hj⟩, fun j hj => by simp at hj⟩ (fun k hk => by
    rcases hk with hk | ⟨j, hj, _⟩
    · cases (show Value.ownBlock (.slice none 0 0) = some k from hk)
    · simp at hj)
/-- A row of numbers that was appended to, read as a block. -/
theorem MW.rowInt (H : MW p v xs w W ps) (i : Nat) {n g c : Nat} {l : List Int} (hi : ps[i]? = some (pRow w.heap.size 3 1 n (.slice (some ⟨g, 0, none⟩) n c) (intsV l))) (hl : l.length = n) : MW p v xs w W (ps.set i (pInt g n (nth l))) :=
  H.part i hi _ (IntBlk.of_owns (H.at i hi) hl (fun _ _ => rfl)) (fun k hk => by
    obtain rfl : k = g := hk
    rfl)
theorem list_range_nth (l : List Int) : ∀ n, l.length = n → (List.range n).map (nth l) = l := fun n hn => by
  refine List.ext_getElem (by simp [hn]) fun i h1 h2 => ?_
  simp [nth, h2]
/-- Rows one more: the row that part j is. -/
theorem MW.list_rows (h : MW p v xs w W ps) (i j : Nat) {n b c : Nat} {u : Value} {nb : Nat → Nat} {rows : List (List Int)} {f : Nat → Int} (hi : ps[i]? = some (pRows w.heap.size n u nb rows)) (hj : ps[j]? = some (pInt b n f)) (hij : i ≠ j) (hn : rows.length ≤ 1000) (hc : n ≤ c)
    {ops : Array Oper} {o : Oper} {a : Act} {Q : Exit → Act → World → Prop} {rest : List Oper} (hgd : o.guard = none) (s x : Operand) (ho : o.op = .call { callee := .builtin .append, args := #[s, x], argTypes := #[24, 24] }) (hs : a.eval s = u) (gb : Nat) (hx : a.eval x = .slice (some ⟨gb, 0, none⟩) 1 1)
    (hcell : ∀ (j : Nat) (z : Value), ([.slice (some ⟨b, 0, none⟩) n c] : List Value)[j]? = some z → W.cell? ((⟨gb, 0, none⟩ : Addr).add j) = some z)
    (hk : ∀ g cap w', MW p v xs w w' ((ps.set i (pRows w.heap.size n (.slice (some ⟨g, 0, none⟩) (rows.length + 1) cap) (fun t => if t = rows.length then b else nb t) (rows ++ [(List.range n).map f]))).set j Part.none) → wpList Try.prog ops Q rest (a.put o.dst (.slice (some ⟨g, 0, none⟩) (rows.length + 1) cap)) w') :
    wpList Try.prog ops Q (o :: rest) a W := by
  obtain ⟨i0, hif, hz0, hz1, hz2⟩ := info_parts infoRow
  have hH := h.join i j hi hj hij
  obtain ⟨⟨fs, hown, hfs⟩, hrows⟩ : (pRows w.heap.size n u nb rows).told W := h.at i hi
  have hint : IntBlk W b n f := h.at j hj
  have hilt : i < ps.length := (List.getElem?_eq_some_iff.1 hi).1
  refine wpList_append_lies W hgd s x 24 ho w.heap.size 22 i0 (.slice none 0 0) 1 24 Try.underlying24 hif hz0 hz1 hz2 rfl (by decide) u rows.length fs hs hown ⟨gb, 0, none⟩ 1 1 [.slice (some ⟨b, 0, none⟩) n c] hx rfl hcell (fun u hu => by simp at hu; subst hu; rfl) (by omega) (by unfold maxLen; omega) (by omega) h.size W.heap.size rfl (fun g cap w' ho' hg hor hlt => hk g cap w' ?_)
  have hb := below_grown (Below.refl w.heap.size W) hg (fun r hr => (hown.lt r hr).1) h.size
  have keep : ∀ {b' : Nat} {f' : Nat → Int}, IntBlk W b' n f' → IntBlk w' b' n f' := fun {b' f'} hB => by
    obtain ⟨A, e1, e2, e3⟩ := hB
    have hl := (Array.getElem?_eq_some_iff.1 e1).1
    exact ⟨A, (hg.block b' hl (not_own hown e1 (by decide))).trans e1, e2, e3⟩
  have hlen : fs.length = rows.length := by have := hown.1; omega
  have key := hH.setPart i (x := (pRows w.heap.size n u nb rows).and (pInt b n f)) (by rw [List.getElem?_set_ne (fun e => hij e.symm), List.getElem?_set_self hilt]) (pRows w.heap.size n (.slice (some ⟨g, 0, none⟩) (rows.length + 1) cap) (fun t => if t = rows.length then b else nb t) (rows ++ [(List.range n).map f])) hb (fun k hk hne => ?_) ?_ (fun k hk => ?_)
  · rw [List.set_comm _ _ hij, List.set_set] at key
    rw [List.set_comm _ _ hij]
    exact key
  · refine hg.block k hk (fun e => hne (.inl (.inl e.symm)))
  · refine ⟨⟨fs ++ [.slice (some ⟨b, 0, none⟩) n c], by simpa using ho', fun t ht => ?_⟩, fun t ht => ?_⟩
    · by_cases e : t = rows.length
      · subst e
        exact ⟨c, hc, by rw [List.getElem?_append_right (by omega)]; simp [hlen]⟩
      · have ht' : t < rows.length := by simp at ht; omega
        obtain ⟨c', h1, h2⟩ := hfs t ht'
        simp only [if_neg e]
        exact ⟨c', h1, by rw [List.getElem?_append_left (by omega)]; exact h2⟩
    · by_cases e : t = rows.length
      · subst e
        rw [nthR_new]
        simp only [if_pos]
        refine ⟨by simp, (keep hint).same fun q hq => ?_⟩
        simp [nth, hq]
      · have ht' : t < rows.length := by simp at ht; omega
        rw [nthR_app ht']
        simp only [if_neg e]
        exact ⟨(hrows t ht').1, keep (hrows t ht').2⟩
  · rcases hk with hk | ⟨t, ht, rfl⟩
    · have hk' : g = k := Option.some.inj hk
      subst hk'
      rcases hor with e | e
      · exact .inl (.inl (.inl e))
      · exact .inr ⟨by omega, hlt⟩
    · by_cases e : t = rows.length
      · simp only [if_pos e]; exact .inl (.inr rfl)
      · have ht' : t < rows.length := by simp at ht; omega
        simp only [if_neg e]; exact .inl (.inl (.inr ⟨t, ht', rfl⟩))
theorem MW.list_rows' (h : MW p v xs w W ps) {n b c : Nat} {u : Value} {nb : Nat → Nat} {rows : List (List Int)} {f : Nat → Int} {r1 : List Int} (hr1 : (List.range n).map f = r1) (i j : Nat) (hi : ps[i]? = some (pRows w.heap.size n u nb rows)) (hj : ps[j]? = some (pInt b n f)) (hij : i ≠ j) (hn : rows.length ≤ 1000) (hc : n ≤ c)
    {ops : Array Oper} {o : Oper} {a : Act} {Q : Exit → Act → World → Prop} {rest : List Oper} (hgd : o.guard = none) (s x : Operand) (ho : o.op = .call { callee := .builtin .append, args := #[s, x], argTypes := #[24, 24] }) (hs : a.eval s = u) (gb : Nat) (hx : a.eval x = .slice (some ⟨gb, 0, none⟩) 1 1)
    (hcell : ∀ (j : Nat) (z : Value), ([.slice (some ⟨b, 0, none⟩) n c] : List Value)[j]? = some z → W.cell? ((⟨gb, 0, none⟩ : Addr).add j) = some z)
    (hk : ∀ g cap w', MW p v xs w w' ((ps.set i (pRows w.heap.size n (.slice (some ⟨g, 0, none⟩) (rows.length + 1) cap) (fun t => if t = rows.length then b else nb t) (rows ++ [r1]))).set j Part.none) → wpList Try.prog ops Q rest (a.put o.dst (.slice (some ⟨g, 0, none⟩) (rows.length + 1) cap)) w') :
    wpList Try.prog ops Q (o :: rest) a W := by
  subst hr1
  exact h.list_rows i j hi hj hij hn hc hgd s x ho hs gb hx hcell hk
end
section
variable (p n k : Nat) (v : Value) (xs : List Int) (w : World) (rv tv uv : Value) (rooms traps : List Int) (rs : List (Int × Int)) (bt : Nat)
def NightAt (E : List (List Int) → (Nat → Nat → Int) → Prop) (mv : Value) (W : World) : Prop :=
  ∃ g q nb M nv cv nbN N nbT T, mv = .slice (some ⟨g, 0, none⟩) n q ∧ n ≤ q ∧ MadeNights rooms traps rs k N T M ∧ E N M ∧ MW p v xs w W (nightParts w.heap.size rv tv uv nv n g rooms traps rs nb M bt cv (.slice none 0 0) nbN N nbT T)
/-- Within a night: the houses below j are done. -/
def HouseAt (nv : Value) (g : Nat) (nb : Nat → Nat) (M : Nat → Nat → Int) (nbN : Nat → Nat) (N T : List (List Int)) (j : Nat) (nt : Value) (W : World) : Prop :=
  ∃ X cv nbT rows row, HouseIs n traps M X j rows row ∧ MW p v xs w W (nightParts w.heap.size rv tv uv nv n g rooms traps rs nb X bt cv (.slice none 0 0) nbN N nbT (T ++ rows) ++ [pRow w.heap.size 3 1 j nt (intsV row)])
/-- Within a house: so many traps are done. -/
def TrapAt (nv cv : Value) (g : Nat) (nb : Nat → Nat) (M X : Nat → Nat → Int) (nbN : Nat → Nat) (N : List (List Int)) (nbT : Nat → Nat) (T : List (List Int)) (j : Nat) (nt : Value) (row : List Int) (b9 i : Nat) (W : World) : Prop :=
  ∃ R f, CatchUp n i (M j) R f ∧ MW p v xs w W (nightParts w.heap.size rv tv uv nv n g rooms traps rs nb (setRow X j R) bt cv (.slice none 0 0) nbN N nbT T ++ [pRow w.heap.size 3 1 j nt (intsV row), pInt b9 n f])
/-- Behind the nights: what is left in the houses below h is told. -/
def LeftAt (nv cv lv : Value) (g : Nat) (nb : Nat → Nat) (M : Nat → Nat → Int) (nbN : Nat → Nat) (N : List (List Int)) (nbT : Nat → Nat) (T : List (List Int)) (bL h : Nat) (lt : Value) (W : World) : Prop :=
  ∃ left L, LeftIs n M h left L ∧ MW p v xs w W (nightParts w.heap.size rv tv uv nv n g rooms traps rs nb M bt cv lv nbN N nbT T ++ [pInt bL n L, pRow w.heap.size 3 1 h lt (intsV left)])
def LeftIn (nv cv lv : Value) (g : Nat) (nb : Nat → Nat) (M : Nat → Nat → Int) (nbN : Nat → Nat) (N : List (List Int)) (nbT : Nat → Nat) (T : List (List Int)) (bL h : Nat) (lt : Value) (left : List Int) (L : Nat → Int) (f : Nat) (W : World) : Prop :=
  ∃ L', (∀ e, L' e = L e + if e < f then M h e else 0) ∧ MW p v xs w W (nightParts w.heap.size rv tv uv nv n g rooms traps rs nb M bt cv lv nbN N nbT T ++ [pInt bL n L', pRow w.heap.size 3 1 (h + 1) lt (intsV left)])
end
section
variable {p n : Nat} {v : Value} {xs : List Int} {w W : World} {rv tv uv : Value} {rooms traps : List Int} {rs : List (Int × Int)} {bt : Nat}
theorem MW.newInts {ps : List Part} (H : MW p v xs w W ps) (m : Nat) : MW p v xs w (W.alloc (.cells (intsV (List.replicate m 0)).toArray 3)) (ps ++ [pInt W.heap.size m (fun _ => 0)]) :=
  H.push _ ((Below.refl _ _).alloc (Nat.le_refl _) _) (zeros_blk (heap_alloc_new _ _)) (fun k hk => by
    obtain rfl : k = W.heap.size := hk
    simp)
theorem nights_begin {g : Nat} {nb : Nat → Nat} {M : Nat → Nat → Int} (H : MW p v xs w W (setParts w.heap.size rv tv uv n n n g rooms traps rs nb M)) :
    MW p v xs w (W.alloc (.cells #[.slice none 0 0, .slice none 0 0] 55)) (nightParts w.heap.size rv tv uv (.slice none 0 0) n g rooms traps rs nb M W.heap.size (.slice none 0 0) (.slice none 0 0) (fun _ => 0) [] (fun _ => 0) []) :=
  (((H.part 6 rfl (pMat g n nb M) (MatTo.full (H.at 6 rfl)) (fun k hk => hk)).newBlk 55 #[.slice none 0 0, .slice none 0 0]).newRows n).newRows n |>.same rfl
theorem night_begins {A : List (Int × Int) → Prop} {g : Nat} {nb : Nat → Nat} {M : Nat → Nat → Int} (hS : SetIs n n n A rooms traps rs M) (H : MW p v xs w W (nightParts w.heap.size rv tv uv (.slice none 0 0) n g rooms traps rs nb M bt (.slice none 0 0) (.slice none 0 0) (fun _ => 0) [] (fun _ => 0) [])) :
    NightAt p n 0 v xs w rv tv uv rooms traps rs bt (Ends rooms traps rs 0) (.slice (some ⟨g, 0, none⟩) n n) W := by
  have hl := hS.lenR
  obtain ⟨h1, h2⟩ := nights_start (rooms := rooms) (traps := traps) (rs := rs) (M := M) (fun h f hh hf => by
    rw [hl] at hh hf; exact hS.mat h f hh hf)
  exact ⟨g, n, nb, M, _, _, _, [], _, [], rfl, Nat.le_refl _, h1, .inl ⟨rfl, h2⟩, H⟩
end
end Go.Proofs.Ytnhifinfjfpoiaa

namespace Go.Proofs.Ytnhifinfjfpoiaa
open Go.RowKit
set_option linter.unusedVariables false

/-- A colony with a truth, and how many are left in each house. -/
structure MadeIs (hs ns : Int) (rooms traps : List Int) (rs : List (Int × Int)) (k : Nat) (N T : List (List Int)) (M : Nat → Nat → Int) (L left : List Int) : Prop where
  made : MadeIn rooms traps rs
  few : (rooms.length : Int) ≤ hs
  nights : (k : Int) ≤ ns
  caught : MadeNights rooms traps rs k N T M
  ends : Ends rooms traps rs k N M
  lenL : L.length = rooms.length
  byL : ∀ f, f < rooms.length → nth L f = sumN (fun i => M i f) rooms.length
  lenLeft : left.length = rooms.length
  inLeft : ∀ i, i < rooms.length → nth left i = sumN (M i) rooms.length
  run2 : rs.length ≤ 2 * rooms.length
def madeParts (B : Nat) (rv tv uv nv : Value) (n : Nat) (rooms traps : List Int) (rs : List (Int × Int)) (nbN : Nat → Nat) (N : List (List Int)) (cv : Value) (nbT : Nat → Nat) (T : List (List Int)) (bL : Nat) (L : Nat → Int) (lt : Value) (left : List Int) : List Part :=
  [pRow B 3 1 n rv (intsV rooms), pRow B 3 1 n tv (intsV traps), pRow B 63 2 rs.length uv (pairsV rs), pRows B n nv nbN N, pRows B n cv nbT T, pInt bL n L, pRow B 3 1 n lt (intsV left)]
def MadePost (p : Nat) (v : Value) (xs : List Int) (hs ns : Int) (w : World) (e : Ending) (w' : World) : Prop :=
  ∃ r t u nv cv lv fv rooms traps rs k N T M L left, e = .returned (.tuple #[.agg #[r, t, u, nv], .agg #[cv, lv], fv]) ∧ MadeIs hs ns rooms traps rs k N T M L left ∧
    ColAt w' w'.heap.size r t u nv ⟨rooms, traps, rs, N⟩ ∧ IsRows w' w'.heap.size cv T ∧ IsInts w' w'.heap.size lv L ∧ IsInts w' w'.heap.size fv left ∧ ChuteAt w' p v xs ∧ Turned p w w' ∧
    ∃ nbN nbT bL Lf, lv = .slice (some ⟨bL, 0, none⟩) rooms.length rooms.length ∧ L = (List.range rooms.length).map Lf ∧ Sep w' w.heap.size (madeParts w.heap.size r t u nv rooms.length rooms traps rs nbN N cv nbT T bL Lf fv left)

theorem rows_of_part {W : World} {B n : Nat} {v : Value} {nb : Nat → Nat} {rows : List (List Int)} (h : (pRows B n v nb rows).told W) (hn : n ≤ 100) (hl : rows.length ≤ 1000) (hb : ∀ i j, i < rows.length → j < n → I64 (nth (nthR rows i) j)) : IsRows W W.heap.size v rows := by
  obtain ⟨⟨fs, hown, hfs⟩, hrows⟩ := h
  refine rows_read hown (fun j hj => ?_) hl
  obtain ⟨c, hc, he⟩ := hfs j hj
  obtain ⟨h1, h2⟩ := hrows j hj
  rw [List.getD_eq_getElem?_getD, he]
  have := h2.ints hc hn (hb j · hj)
  rw [list_range_nth _ n h1] at this
  exact this
theorem MadeNights.cells {rooms traps : List Int} {rs : List (Int × Int)} {k : Nat} {N T : List (List Int)} {M : Nat → Nat → Int} (Q : MadeNights rooms traps rs k N T M) (ht : ∀ i, i < rooms.length → 0 ≤ nth traps i ∧ nth traps i ≤ 3) :
    (∀ i j, i < N.length → j < rooms.length → 0 ≤ nth (nthR N i) j ∧ nth (nthR N i) j ≤ 3) ∧ (∀ i j, i < T.length → j < rooms.length → 0 ≤ nth (nthR T i) j ∧ nth (nthR T i) j ≤ 3) := by
  refine ⟨fun i j hi hj => ?_, fun i f hi hf => ?_⟩
  · have a := Q.night i j (by rw [← Q.lenN]; exact hi) hj
    have b := ht j hj
    omega
  · have hp : 0 < rooms.length := by omega
    rw [Q.lenT] at hi
    have hik := (Nat.div_lt_iff_lt_mul hp).2 hi
    have hm := Nat.mod_lt i hp
    have e : i / rooms.length * rooms.length + i % rooms.length = i := by rw [Nat.mul_comm]; exact Nat.div_add_mod i rooms.length
    have a := Q.night _ _ hik hm
    have b := ht _ hm
    have c := fun f hf => (Q.cell _ _ f hik hm hf).1
    rw [e] at a
    simp only [e] at c
    have d := sumN_ge (f := nth (nthR T i)) (n := rooms.length) (k := f) c hf
    have g := c f hf
    omega
theorem made_post {p n k bL : Nat} {v : Value} {xs : List Int} {hs ns : Int} {w W : World} {rv tv uv nv cv lt : Value} {rooms traps : List Int} {rs : List (Int × Int)} {nbN nbT : Nat → Nat} {M : Nat → Nat → Int} {N T : List (List Int)} {left : List Int} {L : Nat → Int} {ps : List Part}
    (hn1 : 1 ≤ n) (hn6 : n ≤ 6) (hhs : (n : Int) ≤ hs) (hk : (k : Int) ≤ ns) (hns : ns ≤ 5) (S : SetIs n n n (RunsTo n (2 * n)) rooms traps rs (fun _ _ => 0)) (Q : MadeNights rooms traps rs k N T M) (E : Ends rooms traps rs k N M) (Lf : LeftIs n M n left L)
    (H : MW p v xs w W ps) (P : Sep W w.heap.size (madeParts w.heap.size rv tv uv nv n rooms traps rs nbN N cv nbT T bL L lt left)) : MadePost p v xs hs ns w (.returned (.tuple #[.agg #[rv, tv, uv, nv], .agg #[cv, .slice (some ⟨bL, 0, none⟩) n n], lt])) W := by
  have p3 : (pRow w.heap.size 3 1 n rv (intsV rooms)).told W := P.at 0 rfl
  have p4 : (pRow w.heap.size 3 1 n tv (intsV traps)).told W := P.at 1 rfl
  have p5 : (pRow w.heap.size 63 2 rs.length uv (pairsV rs)).told W := P.at 2 rfl
  have p8 : (pRows w.heap.size n nv nbN N).told W := P.at 3 rfl
  have p9 : (pRows w.heap.size n cv nbT T).told W := P.at 4 rfl
  have p10 : (pInt bL n L).told W := P.at 5 rfl
  have p11 : (pRow w.heap.size 3 1 n lt (intsV left)).told W := P.at 6 rfl
  have hl := S.lenR
  have hlt := S.lenT
  have hlL := Lf.len
  have hru := S.runs
  subst hl
  have hMb := fun a f ha hf => Q.bound S.roomB (h := a) (f := f) ha hf
  obtain ⟨hNb, hTb⟩ := Q.cells S.trapB
  have hcol : ∀ f, f < rooms.length → sumN (fun i => M i f) rooms.length ≤ 8 := fun f hf => by have a := Q.col hf; have b := S.roomB f hf; omega
  have hkn : T.length ≤ 30 := by
    have h1 := Q.lenT
    have : k * rooms.length ≤ 5 * 6 := Nat.mul_le_mul (by omega) hn6
    omega
  refine ⟨rv, tv, uv, nv, cv, _, lt, rooms, traps, rs, k, N, T, M, (List.range rooms.length).map L, left, rfl, ⟨⟨⟨hn1, hn6⟩, hlt, S.roomB, S.trapB, hru.runs, by have := hru.few; omega, hru.once⟩, hhs, hk, Q, E, by simp, fun f hf => ?_, hlL, fun i hi => Lf.sums i hi, hru.few⟩, ⟨?_, ?_, ?_, ?_⟩, ?_, ?_, ?_, H.chute, H.turned, nbN, nbT, bL, L, rfl, rfl, P⟩
  · rw [nth_ofRange L hf]; exact Lf.by_ f hf
  · show IsInts W W.heap.size rv rooms
    refine nums_of_owns p3 (fun x hx => ?_) (by omega)
    obtain ⟨i, hi, rfl⟩ := List.mem_iff_getElem.1 hx
    have := S.roomB i hi
    rw [nth_eq hi] at this
    unfold I64; omega
  · show IsInts W W.heap.size tv traps
    have p4' : W.ownsRow w.heap.size 3 1 tv traps.length (intsV traps) := by rw [hlt]; exact p4
    refine nums_of_owns p4' (fun x hx => ?_) (by omega)
    obtain ⟨i, hi, rfl⟩ := List.mem_iff_getElem.1 hx
    have := S.trapB i (by omega)
    rw [nth_eq hi] at this
    unfold I64; omega
  · show IsPairs W W.heap.size uv rs
    refine pairs_of_owns p5 (fun q hq => ?_) (by have := hru.few; omega)
    obtain ⟨i, hi, rfl⟩ := List.mem_iff_getElem.1 hq
    have := hru.runs i hi
    rw [nthP_eq hi] at this
    unfold I64; omega
  · show IsRows W W.heap.size nv N
    exact rows_of_part p8 (by omega) (by have := Q.lenN; omega) (fun i j hi hj => by have := hNb i j hi hj; unfold I64; omega)
  · exact rows_of_part p9 (by omega) (by omega) (fun i j hi hj => by have := hTb i j hi hj; unfold I64; omega)
  · refine IntBlk.ints p10 (Nat.le_refl _) (by omega) (fun j hj => ?_)
    have e := Lf.by_ j hj
    have a := hcol j hj
    have b := sumN_nonneg (f := fun i => M i j) (n := rooms.length) (fun i hi => (hMb i j hi hj).1)
    unfold I64; omega
  · have p11' : W.ownsRow w.heap.size 3 1 lt left.length (intsV left) := by rw [hlL]; exact p11
    refine nums_of_owns p11' (fun x hx => ?_) (by omega)
    obtain ⟨i, hi, rfl⟩ := List.mem_iff_getElem.1 hx
    have e := Lf.sums i (by omega)
    rw [nth_eq hi] at e
    have a := sumN_nonneg (f := M i) (n := rooms.length) (fun j hj => (hMb i j (by omega) hj).1)
    have b := sumN_bound (f := M i) (n := rooms.length) (b := 8) (fun j hj => (hMb i j (by omega) hj).2)
    unfold I64; omega
theorem MadeIs.check {hs ns : Int} {rooms traps : List Int} {rs : List (Int × Int)} {k : Nat} {N T : List (List Int)} {M : Nat → Nat → Int} {L left : List Int} (I : MadeIs hs ns rooms traps rs k N T M L left) (hns : ns ≤ 5) : checkC ⟨rooms, traps, rs, N⟩ = 0 := by
  have h1 := I.nights
  have h2 := I.caught.lenN
  exact made_check I.made (by omega) (fun i hi => I.caught.rowN i (by omega)) (fun i j hi hj => by have a := I.caught.night i j (by omega) hj; exact ⟨a.1, a.2.1⟩)
theorem MadeIs.fits {hs ns : Int} {rooms traps : List Int} {rs : List (Int × Int)} {k : Nat} {N T : List (List Int)} {M : Nat → Nat → Int} {L left : List Int} (I : MadeIs hs ns rooms traps rs k N T M L left) (hns : ns ≤ 5) : FitsP ⟨rooms, traps, rs, N⟩ T L :=
  made_fits (I.check hns) I.caught I.ends I.byL
theorem MadeIs.fitErr {hs ns : Int} {rooms traps : List Int} {rs : List (Int × Int)} {k : Nat} {N T : List (List Int)} {M : Nat → Nat → Int} {L left : List Int} (I : MadeIs hs ns rooms traps rs k N T M L left) (hns : ns ≤ 5) : fitErr ⟨rooms, traps, rs, N⟩ = 0 :=
  fits_err (I.check hns) (I.fits hns)
end Go.Proofs.Ytnhifinfjfpoiaa

namespace Go.Proofs.Ytnhifinfjfpoiaa
open Go.RowKit
set_option linter.unusedVariables false
set_option linter.unusedSimpArgs false

set_option maxRecDepth 100000 in
set_option maxHeartbeats 3000000 in
theorem made_any (p : Nat) (v : Value) (xs : List Int) (hs ns : Int) (w : World) (hc : ChuteAt w p v xs) (hh : 1 ≤ hs ∧ hs ≤ 6) (hns : 0 ≤ ns ∧ ns ≤ 5) :
    Calls Try.prog 34 #[.pointer (some ⟨p, 0, none⟩), .int .i64 hs, .int .i64 ns] w (MadePost p v xs hs ns w) := by
  have HC := Lib.hid hc
  obtain ⟨hh1, hh2⟩ := hh
  obtain ⟨hn1, hn2⟩ := hns
  clear hc
  go_enter Try.func34, Try.ntmps34
  go_wp2_with fail
  refine (between_any p v xs 1 hs _ ((HC.out.below ((Below.refl _ _).alloc (Nat.le_refl _) _)).below ((Below.refl _ _).alloc (Nat.le_refl _) _) |>.below ((Below.refl _ _).alloc (Nat.le_refl _) _)) (by omega) (by omega) (by omega)).mono ?_
  rintro e w1 ⟨x, rfl, hx1, hx2, hc1, ht1⟩
  obtain ⟨n, rfl⟩ : ∃ n : Nat, x = n := ⟨x.toNat, by omega⟩
  have HW1 := Lib.hid (And.intro hc1 ht1)
  have hn6 : n ≤ 6 := by omega
  have hn0 : 0 < n := by omega
  have hmk := fun W => make_rowsN n (by omega) W
  have hmi := fun W => make_intsN n (by omega) W
  clear hc1 ht1
  go_wp2_with fail
  have hp := HC.out.lt
  have HST := Lib.hid (midAt_start (n := n) hp HW1.out.1 _ rfl HW1.out.2)
  go_loopw [31] (fun i wr => ∃ h : Nat, h ≤ n ∧ i = .int .i64 h ∧ Hid (MidAt p n h h v xs w1.heap.size w (RunsTo h (2 * h)) wr)) (fun i _ => n - (intOf i).toNat)
  case atStart => exact ⟨0, Nat.zero_le _, rfl, HST⟩
  case round =>
    obtain ⟨h, hh, rfl, HR⟩ := hrel
    by_cases hlt : h < n
    · skip
      have hhi : (h : Int) < n := by omega
      go_upto_region 7 with (fail)
      go_cut [] (fun wx => Hid (MidAt p n (h + 1) h v xs w1.heap.size w (RunsTo h (2 * h)) wx))
      case first =>
        obtain ⟨rv, tv, uv, rooms, traps, rs, nb, M, hS, hM⟩ := HR.out
        have HS := Lib.hid hS
        have HM0 := Lib.hid hM.drew
        have hC := box_of (hM.drew.at 2 rfl)
        clear hS hM HR
        refine wp_region_noPanic ?_
        refine anyL_start (S := Till [13, 15] (Box2 (w.heap.size + 1 + 1) rv tv)) (by kernel_rfl) (fun _ => hC) (fun hT => ?_)
        refine takeL0 (i := 0) (d := 34) (v := ?_) rfl rfl (by kernel_rfl) (by kernel_rfl) (by kernel_rfl) (by kernel_rfl) (fun _ _ _ _ _ h => h) (by rfl) ?_ (fun _ => hC) ?_
        rotate_left
        · intro w
          go_simp
          try with_reducible rfl
        (try simp only [Act.put, List.setIfInBounds_toArray, List.set_cons_zero, List.set_cons_succ])
        refine takeL0 (i := 2) (d := 36) (v := ?_) rfl rfl (by kernel_rfl) (by kernel_rfl) (by kernel_rfl) (by kernel_rfl) (fun _ _ _ _ _ h => h) (by rfl) ?_ (fun _ => hC) ?_
        rotate_left
        · intro w
          go_simp
          try with_reducible rfl
        (try simp only [Act.put, List.setIfInBounds_toArray, List.set_cons_zero, List.set_cons_succ])
        refine takeL0 (i := 6) (d := 40) (v := ?_) rfl rfl (by kernel_rfl) (by kernel_rfl) (by kernel_rfl) (by kernel_rfl) (fun _ _ _ _ _ h => h) (by rfl) ?_ (fun _ => hC) ?_
        rotate_left
        · intro w
          go_simp
          try with_reducible rfl
        (try simp only [Act.put, List.setIfInBounds_toArray, List.set_cons_zero, List.set_cons_succ])
        refine takeL0 (i := 8) (d := 42) (v := ?_) rfl rfl (by kernel_rfl) (by kernel_rfl) (by kernel_rfl) (by kernel_rfl) (fun _ _ _ _ _ h => h) (by rfl) ?_ (fun _ => hC) ?_
        rotate_left
        · intro w
          go_simp
          try with_reducible rfl
        (try simp only [Act.put, List.setIfInBounds_toArray, List.set_cons_zero, List.set_cons_succ])
        refine takeL (i := 1) (d := 35) (v := ?_) rfl rfl (by kernel_rfl) (by kernel_rfl) (by kernel_rfl) (by kernel_rfl) (by kernel_rfl) (by kernel_rfl) (fun _ _ _ _ _ h => h) (by rfl) ?_ hC ?_
        rotate_left
        · intro w hSw
          (try dsimp only at hSw)
          obtain ⟨hS0, hS1⟩ := hSw
          go_simp
          try with_reducible rfl
        (try simp only [Act.put, List.setIfInBounds_toArray, List.set_cons_zero, List.set_cons_succ])
        refine takeL (i := 7) (d := 41) (v := ?_) rfl rfl (by kernel_rfl) (by kernel_rfl) (by kernel_rfl) (by kernel_rfl) (by kernel_rfl) (by kernel_rfl) (fun _ _ _ _ _ h => h) (by rfl) ?_ hC ?_
        rotate_left
        · intro w hSw
          (try dsimp only at hSw)
          obtain ⟨hS0, hS1⟩ := hSw
          go_simp
          try with_reducible rfl
        (try simp only [Act.put, List.setIfInBounds_toArray, List.set_cons_zero, List.set_cons_succ])
        refine nextL (i := 3) rfl (by kernel_rfl) (fun K hK => ?_)
        go_simp
        refine (pull_any p v xs 9 _ HM0.out.chute (by omega) (by omega)).mono ?_
        rintro e w2 ⟨x, rfl, x0, x9, hc2, ht2⟩
        have HM2 := Lib.hid (HM0.out.turn hc2 ht2)
        clear hc2 ht2 hC
        have hC := box_of (HM2.out.at 2 rfl)
        go_simp
        refine hK.out _ _ (fun _ => hC) ?_
        clear hK K
        (try simp only [Act.put, List.setIfInBounds_toArray, List.set_cons_zero, List.set_cons_succ])
        refine nextL (i := 4) rfl (by kernel_rfl) (fun K hK => ?_)
        go_simp
        have HM3 := Lib.hid (HM2.out.alloc (.cells #[.int .i64 x] 3))
        clear hC
        have hC := box_of (HM3.out.at 2 rfl)
        refine hK.out _ _ (fun _ => hC) ?_
        clear hK K
        (try simp only [Act.put, List.setIfInBounds_toArray, List.set_cons_zero, List.set_cons_succ])
        refine nextL (i := 5) rfl (by kernel_rfl) (fun K hK => ?_)
        refine HM3.out.step_int 3 rooms x rfl (by omega) rfl _ _ rfl rfl w2.heap.size rfl (cell_one_new w2 (.int .i64 x) 3) ?_
        intro g5 cap5 w5 hm5 hb5 _
        have HM5 := Lib.hid hm5
        clear hC hm5 hb5
        have hC := box_of (HM5.out.at 2 rfl)
        refine hK.out _ _ (fun _ => hC) ?_
        clear hK K
        (try simp only [Act.put, List.setIfInBounds_toArray, List.set_cons_zero, List.set_cons_succ])
        refine takeL0 (i := 12) (d := 46) (v := ?_) rfl rfl (by kernel_rfl) (by kernel_rfl) (by kernel_rfl) (by kernel_rfl) (fun _ _ _ _ _ h => h) (by rfl) ?_ (fun _ => hC) ?_
        rotate_left
        · intro w
          go_simp
          try with_reducible rfl
        (try simp only [Act.put, List.setIfInBounds_toArray, List.set_cons_zero, List.set_cons_succ])
        refine nextL (i := 9) rfl (by kernel_rfl) (fun K hK => ?_)
        go_simp
        refine (pull_any p v xs 4 _ HM5.out.chute (by omega) (by omega)).mono ?_
        rintro e w6 ⟨y, rfl, y0, y4, hc6, ht6⟩
        have HM6 := Lib.hid (HM5.out.turn hc6 ht6)
        clear hc6 ht6 hC
        have hC := box_of (HM6.out.at 2 rfl)
        go_simp
        refine hK.out _ _ (fun _ => hC) ?_
        clear hK K
        (try simp only [Act.put, List.setIfInBounds_toArray, List.set_cons_zero, List.set_cons_succ])
        refine nextL (i := 10) rfl (by kernel_rfl) (fun K hK => ?_)
        go_simp
        have HM7 := Lib.hid (HM6.out.alloc (.cells #[.int .i64 y] 3))
        clear hC
        have hC := box_of (HM7.out.at 2 rfl)
        refine hK.out _ _ (fun _ => hC) ?_
        clear hK K
        (try simp only [Act.put, List.setIfInBounds_toArray, List.set_cons_zero, List.set_cons_succ])
        refine nextL (i := 11) rfl (by kernel_rfl) (fun K hK => ?_)
        refine HM7.out.step_int 4 traps y rfl (by omega) rfl _ _ rfl rfl w6.heap.size rfl (cell_one_new w6 (.int .i64 y) 3) ?_
        intro g8 cap8 w8 hm8 hb8 _
        have HM8 := Lib.hid hm8
        clear hC hm8 hb8
        have hC := box_of (HM8.out.at 2 rfl)
        have hfr := box_free (HM8.out.at 2 rfl) 0
        refine hK.out _ _ (fun _ => hC) ?_
        clear hK K
        (try simp only [Act.put, List.setIfInBounds_toArray, List.set_cons_zero, List.set_cons_succ])
        refine nextL (i := 13) rfl (by kernel_rfl) (fun K hK => ?_)
        have hC0 := hC.1
        go_simp
        have HM9 := Lib.hid (HM8.out.setBlk 2 rfl 0 (.slice (some ⟨g5, 0, none⟩) (h + 1) cap5))
        clear hC hC0 hfr
        have hC := box_of (HM9.out.at 2 rfl)
        have hfr := box_free (HM9.out.at 2 rfl) 1
        refine hK.out _ _ (Till.done (by kernel_rfl)) ?_
        clear hK K
        (try simp only [Act.put, List.setIfInBounds_toArray, List.set_cons_zero, List.set_cons_succ])
        refine takeL0 (i := 14) (d := 47) (v := ?_) rfl rfl (by kernel_rfl) (by kernel_rfl) (by kernel_rfl) (by kernel_rfl) (fun _ _ _ _ _ h => h) (by rfl) ?_ (Till.done (by kernel_rfl)) ?_
        rotate_left
        · intro w
          go_simp
          try with_reducible rfl
        (try simp only [Act.put, List.setIfInBounds_toArray, List.set_cons_zero, List.set_cons_succ])
        refine nextL (i := 15) rfl (by kernel_rfl) (fun K hK => ?_)
        have hC0 := hC.2
        go_simp
        have HM10 := Lib.hid (HM9.out.setBlk 2 rfl 1 (.slice (some ⟨g8, 0, none⟩) (h + 1) cap8))
        clear hC hC0 hfr
        refine hK.out _ _ (Till.done (by kernel_rfl)) ?_
        clear hK K
        (try simp only [Act.put, List.setIfInBounds_toArray, List.set_cons_zero, List.set_cons_succ])
        refine anyL_done (by kernel_rfl) ?_ _
        refine NoPanic.normal ?_
        go_wp2_with fail
        go_meet
        exact ⟨_, _, _, _, _, _, _, _, HS.out.house ⟨x0, by omega⟩ ⟨y0, by omega⟩, HM10.out⟩
      case rest =>
        have HR1 := hcut
        clear hcut HR
        go_step
        go_step
        go_cut [] (fun wx => Hid (MidAt p n (h + 1) h v xs w1.heap.size w (RunsMid h) wx))
        case first =>
          obtain ⟨rv, tv, uv, rooms, traps, rs, nb, M, hS, hM⟩ := HR1.out
          have HS := Lib.hid hS
          have HM0 := Lib.hid hM
          clear hS hM HR1
          by_cases h0 : 0 < h
          · have h0i : (0 : Int) < h := by omega
            go_wp2_with fail
            refine (chuteIn_any p v xs 5 _ HM0.out.chute (by omega) (by omega)).mono ?_
            rintro e w2 ⟨b, rfl, hc2, ht2⟩
            have HM2 := Lib.hid (HM0.out.turn hc2 ht2)
            clear hc2 ht2
            cases b
            · go_upto_region 9 with (fail)
              have hf := HS.out.runs.few
              have HM2d := Lib.hid HM2.out.drew
              have hC : Box1 (w.heap.size + 1 + 1) 2 uv w2.drew := box1_of (HM2d.out.at 2 rfl) rfl
              refine wp_region_noPanic ?_
              refine anyL_start (S := Till [10] (Box1 (w.heap.size + 1 + 1) 2 uv)) (by kernel_rfl) (fun _ => hC) (fun hT => ?_)
              refine takeL0 (i := 0) (d := 55) (v := ?_) rfl rfl (by kernel_rfl) (by kernel_rfl) (by kernel_rfl) (by kernel_rfl) (fun _ _ _ _ _ h => h) (by rfl) ?_ (fun _ => hC) ?_
              rotate_left
              · intro w
                go_simp
                try with_reducible rfl
              (try simp only [Act.put, List.setIfInBounds_toArray, List.set_cons_zero, List.set_cons_succ])
              refine takeL0 (i := 2) (d := 57) (v := ?_) rfl rfl (by kernel_rfl) (by kernel_rfl) (by kernel_rfl) (by kernel_rfl) (fun _ _ _ _ _ h => h) (by rfl) ?_ (fun _ => hC) ?_
              rotate_left
              · intro w
                go_simp
                try with_reducible rfl
              (try simp only [Act.put, List.setIfInBounds_toArray, List.set_cons_zero, List.set_cons_succ])
              refine takeL0 (i := 3) (d := 58) (v := ?_) rfl rfl (by kernel_rfl) (by kernel_rfl) (by kernel_rfl) (by kernel_rfl) (fun _ _ _ _ _ h => h) (by rfl) ?_ (fun _ => hC) ?_
              rotate_left
              · intro w
                go_simp
                try with_reducible rfl
              (try simp only [Act.put, List.setIfInBounds_toArray, List.set_cons_zero, List.set_cons_succ])
              refine takeL0 (i := 4) (d := 59) (v := ?_) rfl rfl (by kernel_rfl) (by kernel_rfl) (by kernel_rfl) (by kernel_rfl) (fun _ _ _ _ _ h => h) (by rfl) ?_ (fun _ => hC) ?_
              rotate_left
              · intro w
                go_simp
                try with_reducible rfl
              (try simp only [Act.put, List.setIfInBounds_toArray, List.set_cons_zero, List.set_cons_succ])
              refine takeL (i := 1) (d := 56) (v := ?_) rfl rfl (by kernel_rfl) (by kernel_rfl) (by kernel_rfl) (by kernel_rfl) (by kernel_rfl) (by kernel_rfl) (fun _ _ _ _ _ h => h) (by rfl) ?_ hC ?_
              rotate_left
              · intro w hSw
                (try dsimp only at hSw)
                obtain ⟨hS0, hS1⟩ := hSw
                go_simp
                try with_reducible rfl
              (try simp only [Act.put, List.setIfInBounds_toArray, List.set_cons_zero, List.set_cons_succ])
              refine nextL (i := 5) rfl (by kernel_rfl) (fun K hK => ?_)
              go_simp
              refine (pull_any p v xs h _ HM2d.out.chute (by omega) (by omega)).mono ?_
              rintro e w3 ⟨x, rfl, x0, x9, hc3, ht3⟩
              have HM3 := Lib.hid (HM2d.out.turn hc3 ht3)
              clear hc3 ht3 hC
              have hC : Box1 (w.heap.size + 1 + 1) 2 uv w3 := box1_of (HM3.out.at 2 rfl) rfl
              go_simp
              refine hK.out _ _ (fun _ => hC) ?_
              clear hK K
              (try simp only [Act.put, List.setIfInBounds_toArray, List.set_cons_zero, List.set_cons_succ])
              refine takeL0 (i := 6) (d := 61) (v := ?_) rfl rfl (by kernel_rfl) (by kernel_rfl) (by kernel_rfl) (by kernel_rfl) (fun _ _ _ _ _ h => h) (by rfl) ?_ (fun _ => hC) ?_
              rotate_left
              · intro w
                go_simp
                try with_reducible rfl
              (try simp only [Act.put, List.setIfInBounds_toArray, List.set_cons_zero, List.set_cons_succ])
              refine nextL (i := 7) rfl (by kernel_rfl) (fun K hK => ?_)
              go_simp
              have HM4 := Lib.hid (HM3.out.alloc (.cells #[.int .i64 h, .int .i64 x] 63))
              clear hC
              have hC := box1_of (x := uv) (o := 2) (HM4.out.at 2 rfl) rfl
              refine hK.out _ _ (fun _ => hC) ?_
              clear hK K
              (try simp only [Act.put, List.setIfInBounds_toArray, List.set_cons_zero, List.set_cons_succ])
              refine nextL (i := 8) rfl (by kernel_rfl) (fun K hK => ?_)
              refine HM4.out.step_pair 5 rs ((h : Int), x) rfl (by omega) rfl _ _ rfl rfl w3.heap.size rfl (World.news_of_block (heap_alloc_new _ _)) ?_
              intro g5 cap5 w5 hm5 hb5 _
              have HM5 := Lib.hid hm5
              clear hC hm5 hb5
              have hC := box1_of (x := uv) (o := 2) (HM5.out.at 2 rfl) rfl
              have hfr := box_free (HM5.out.at 2 rfl) 2
              refine hK.out _ _ (fun _ => hC) ?_
              clear hK K
              (try simp only [Act.put, List.setIfInBounds_toArray, List.set_cons_zero, List.set_cons_succ])
              refine takeL0 (i := 9) (d := 64) (v := ?_) rfl rfl (by kernel_rfl) (by kernel_rfl) (by kernel_rfl) (by kernel_rfl) (fun _ _ _ _ _ h => h) (by rfl) ?_ (fun _ => hC) ?_
              rotate_left
              · intro w
                go_simp
                try with_reducible rfl
              (try simp only [Act.put, List.setIfInBounds_toArray, List.set_cons_zero, List.set_cons_succ])
              refine nextL (i := 10) rfl (by kernel_rfl) (fun K hK => ?_)
              have hC0 := hC.1
              go_simp
              have HM9 := Lib.hid (HM5.out.setBlk 2 rfl 2 (.slice (some ⟨g5, 0, none⟩) (rs.length + 1) cap5))
              clear hC hC0 hfr
              refine hK.out _ _ (Till.done (by kernel_rfl)) ?_
              clear hK K
              (try simp only [Act.put, List.setIfInBounds_toArray, List.set_cons_zero, List.set_cons_succ])
              refine anyL_done (by kernel_rfl) ?_ _
              refine NoPanic.normal ?_
              go_wp2_with fail
              go_meet
              exact ⟨_, _, .slice (some ⟨g5, 0, none⟩) (rs.length + 1) cap5, _, _, rs ++ [((h : Int), x)], nb, M, HS.out.runs' ⟨_, HS.out.runs, .inr ⟨x, x0, by omega, rfl⟩⟩, HM9.out.same (setParts_run rfl)⟩
            · go_wp2_with fail
              go_meet
              exact ⟨_, _, _, _, _, _, _, _, HS.out.runs' ⟨_, HS.out.runs, .inl rfl⟩, HM2.out⟩
          · have h0i : ¬ (0 : Int) < h := by omega
            go_wp2_with fail
            go_meet
            exact ⟨_, _, _, _, _, _, _, _, HS.out.runs' ⟨_, HS.out.runs, .inl rfl⟩, HM0.out⟩
        case rest =>
          have HR2 := hcut
          clear hcut HR1
          go_step
          go_step
          go_cut [] (fun wx => Hid (MidAt p n (h + 1) h v xs w1.heap.size w (RunsTo (h + 1) (2 * (h + 1))) wx))
          case first =>
            obtain ⟨rv, tv, uv, rooms, traps, rs, nb, M, hS, hM⟩ := HR2.out
            have HS := Lib.hid hS
            have HM0 := Lib.hid hM
            clear hS hM HR2
            by_cases h0 : 1 < h
            · have h0i : (1 : Int) < h := by omega
              go_wp2_with fail
              refine (chuteIn_any p v xs 3 _ HM0.out.chute (by omega) (by omega)).mono ?_
              rintro e w2 ⟨b, rfl, hc2, ht2⟩
              have HM2 := Lib.hid (HM0.out.turn hc2 ht2)
              clear hc2 ht2
              cases b
              · go_wp2_with fail
                go_meet
                exact ⟨_, _, _, _, _, _, _, _, HS.out.runs' HS.out.runs.skip, HM2.out⟩
              · go_wp2_with fail
                refine (pull_any p v xs h _ HM2.out.chute (by omega) (by omega)).mono ?_
                rintro e w3 ⟨y, rfl, y0, y9, hc3, ht3⟩
                have HM3 := Lib.hid (HM2.out.turn hc3 ht3)
                clear hc3 ht3
                have hf := HS.out.runs.few
                have hy1 : y < h := by omega
                go_upto_region 12 with (fail)
                have HM4 := Lib.hid (HM3.out.newBlk 63 #[.int .i64 y, .int .i64 h])
                obtain ⟨W4, hW4⟩ : ∃ W4, w3.alloc (.cells #[.int .i64 y, .int .i64 h] 63) = W4 := ⟨_, rfl⟩
                rw [hW4] at HM4 ⊢
                obtain ⟨bx, hbx⟩ : ∃ bx, w3.heap.size = bx := ⟨_, rfl⟩
                rw [hbx] at HM4 ⊢
                clear hW4 hbx
                have hb2 : W4.cell? ⟨w.heap.size + 1 + 1, 2, none⟩ = some uv := (box1_of (HM4.out.at 2 rfl) rfl).1
                go_wp2_with fail
                refine (turn_any uv rs bx y h W4 (pairs_of_owns (HM4.out.at 5 rfl) (HS.out.runs.i64 (by omega)) (by omega)) (HM4.out.at 7 rfl)).mono ?_
                rintro e w5 ⟨rfl, hb5⟩
                have HM5 := Lib.hid (HM4.out.below hb5)
                clear hb5 hb2
                cases ht : turnB rs y h
                · have hb2 : w5.cell? ⟨w.heap.size + 1 + 1, 2, none⟩ = some uv := (box1_of (HM5.out.at 2 rfl) rfl).1
                  obtain ⟨hr0, hr1⟩ := two_at (HM5.out.at 7 rfl)
                  have HT := Lib.hid ht
                  have HM6 := Lib.hid (HM5.out.alloc (.cells #[.int .i64 y, .int .i64 h] 63))
                  clear ht
                  go_wp2_with (at_builtin; refine HM6.out.list_pair 5 rs (y, (h : Int)) rfl (by omega) rfl _ _ rfl rfl w5.heap.size rfl (World.news_of_block (heap_alloc_new _ _)) ?_)
                  intro g7 cap7 w7 hm7 hb7 _
                  have hb2' := (box1_of (x := uv) (o := 2) (hm7.at 2 rfl) rfl).1
                  have hfr := box_free (hm7.at 2 rfl) 2
                  have HM8 := Lib.hid (hm7.setBlk 2 rfl 2 (.slice (some ⟨g7, 0, none⟩) (rs.length + 1) cap7))
                  clear hm7 hb7 hb2 hr0 hr1
                  go_wp2_with fail
                  go_meet
                  exact ⟨_, _, .slice (some ⟨g7, 0, none⟩) (rs.length + 1) cap7, _, _, rs ++ [(y, (h : Int))], nb, M, HS.out.runs' (HS.out.runs.more ⟨y0, hy1⟩ HT.out), (HM8.out.same (setParts_run2 rfl)).left⟩
                · go_wp2_with fail
                  go_meet
                  exact ⟨_, _, _, _, _, _, _, _, HS.out.runs' HS.out.runs.skip, HM5.out.left⟩
            · have h0i : ¬ (1 : Int) < h := by omega
              go_wp2_with fail
              go_meet
              exact ⟨_, _, _, _, _, _, _, _, HS.out.runs' HS.out.runs.skip, HM0.out⟩
          case rest =>
            have HR3 := hcut
            clear hcut HR2
            obtain ⟨rv, tv, uv, rooms, traps, rs, nb, M, hS, hM⟩ := HR3.out
            have HS := Lib.hid hS
            have HM0 := Lib.hid hM
            clear hS hM HR3
            have hMT : MatTo (wc.alloc (.cells (intsV (List.replicate n 0)).toArray 3)) w1.heap.size n h nb M := (HM0.out.alloc _).at 6 rfl
            obtain ⟨A, hA, hAn, _⟩ := hMT.head
            obtain ⟨z, hz⟩ : ∃ z, A[h]? = some z := ⟨A[h]'(by omega), by simp [show h < A.size by omega]⟩
            have hcz := (cell_of_row _ _ _ _ _ _ hA).trans hz
            have hcf := frozen_of_row _ _ h _ _ hA
            have HR4 := Lib.hid (HM0.out.rowNew hlt)
            clear hA hAn hz hMT
            go_upto_region 15 with (fail)
            obtain ⟨W5, hW5⟩ : ∃ W5, (wc.alloc (.cells (intsV (List.replicate n 0)).toArray 3)).setCell ⟨w1.heap.size, h, none⟩ (.slice (some ⟨wc.heap.size, 0, none⟩) n n) = W5 := ⟨_, rfl⟩
            rw [hW5] at HR4 ⊢
            obtain ⟨nb', hnb⟩ : ∃ nb', (fun j => if j = h then wc.heap.size else nb j) = nb' := ⟨_, rfl⟩
            obtain ⟨M', hM'⟩ : ∃ M', (fun j => if j = h then (fun _ => 0) else M j) = M' := ⟨_, rfl⟩
            rw [hnb, hM'] at HR4
            have HD := Lib.hid HR4.out.drew
            obtain ⟨br, cr, rfl, hcr, hrc⟩ := int_row_cells (HD.out.at 3 rfl) HS.out.lenR (by omega)
            have HRC := Lib.hid hrc
            have hrb := HS.out.roomB h (by omega)
            have HRB := Lib.hid hrb
            obtain ⟨rm, hrm⟩ : ∃ rm, nth rooms h = rm := ⟨_, rfl⟩
            have hwr : IntKind.i64.wrap (rm + 1) = rm + 1 := by rw [IntKind.wrap_i64]; omega
            have mk : ∀ W : World, MW p v xs w W (setParts w.heap.size (.slice (some ⟨br, 0, none⟩) (h + 1) cr) tv uv (h + 1) (h + 1) n w1.heap.size rooms traps rs nb' M') → Box3 (w.heap.size + 1 + 1) w1.heap.size (nb' h) br h n (.slice (some ⟨br, 0, none⟩) (h + 1) cr) (.int .i64 rm) W := fun W H => by
              refine ⟨(box_of (H.at 2 rfl)).1, ?_, ?_⟩
              · have hT : MatTo W w1.heap.size n (h + 1) nb' M' := H.at 6 rfl
                obtain ⟨A, e1, _, e3⟩ := hT.head
                exact (cell_of_row _ _ _ _ _ _ e1).trans (e3 h (by omega))
              · obtain ⟨b2, c2, e1, _, e2⟩ := int_row_cells (H.at 3 rfl) HS.out.lenR (by omega)
                cases e1
                rw [e2 h (by omega), hrm]
            have HK := Lib.hid mk
            have hC := mk _ HD.out
            have HME := Lib.hid hM'
            have hrm0 : 0 ≤ rm ∧ rm ≤ 8 := by rw [← hrm]; exact hrb
            have HRM := Lib.hid hrm
            have hhs : (h : Int) < (h : Int) + 1 := by omega
            clear hM' hnb hW5
            clear mk hrb hrm hrc hcz hcf
            refine wp_region_noPanic ?_
            refine anyL_start (S := Till [14] (Box3 (w.heap.size + 1 + 1) w1.heap.size (nb' h) br h n (.slice (some ⟨br, 0, none⟩) (h + 1) cr) (.int .i64 rm))) (by kernel_rfl) (fun _ => hC) (fun hT => ?_)
            refine takeL0 (i := 0) (d := 92) (v := ?_) rfl rfl (by kernel_rfl) (by kernel_rfl) (by kernel_rfl) (by kernel_rfl) (fun _ _ _ _ _ h => h) (by rfl) ?_ (fun _ => hC) ?_
            rotate_left
            · intro w
              go_simp
              try with_reducible rfl
            (try simp only [Act.put, List.setIfInBounds_toArray, List.set_cons_zero, List.set_cons_succ])
            refine takeL0 (i := 1) (d := 93) (v := ?_) rfl rfl (by kernel_rfl) (by kernel_rfl) (by kernel_rfl) (by kernel_rfl) (fun _ _ _ _ _ h => h) (by rfl) ?_ (fun _ => hC) ?_
            rotate_left
            · intro w
              go_simp
              try with_reducible rfl
            (try simp only [Act.put, List.setIfInBounds_toArray, List.set_cons_zero, List.set_cons_succ])
            refine takeL0 (i := 2) (d := 94) (v := ?_) rfl rfl (by kernel_rfl) (by kernel_rfl) (by kernel_rfl) (by kernel_rfl) (fun _ _ _ _ _ h => h) (by rfl) ?_ (fun _ => hC) ?_
            rotate_left
            · intro w
              go_simp
              try with_reducible rfl
            (try simp only [Act.put, List.setIfInBounds_toArray, List.set_cons_zero, List.set_cons_succ])
            refine takeL0 (i := 4) (d := 96) (v := ?_) rfl rfl (by kernel_rfl) (by kernel_rfl) (by kernel_rfl) (by kernel_rfl) (fun _ _ _ _ _ h => h) (by rfl) ?_ (fun _ => hC) ?_
            rotate_left
            · intro w
              go_simp
              try with_reducible rfl
            (try simp only [Act.put, List.setIfInBounds_toArray, List.set_cons_zero, List.set_cons_succ])
            refine takeL0 (i := 5) (d := 97) (v := ?_) rfl rfl (by kernel_rfl) (by kernel_rfl) (by kernel_rfl) (by kernel_rfl) (fun _ _ _ _ _ h => h) (by rfl) ?_ (fun _ => hC) ?_
            rotate_left
            · intro w
              go_simp
              try with_reducible rfl
            (try simp only [Act.put, List.setIfInBounds_toArray, List.set_cons_zero, List.set_cons_succ])
            refine takeL0 (i := 6) (d := 98) (v := ?_) rfl rfl (by kernel_rfl) (by kernel_rfl) (by kernel_rfl) (by kernel_rfl) (fun _ _ _ _ _ h => h) (by rfl) ?_ (fun _ => hC) ?_
            rotate_left
            · intro w
              go_simp
              try with_reducible rfl
            (try simp only [Act.put, List.setIfInBounds_toArray, List.set_cons_zero, List.set_cons_succ])
            refine takeL0 (i := 8) (d := 100) (v := ?_) rfl rfl (by kernel_rfl) (by kernel_rfl) (by kernel_rfl) (by kernel_rfl) (fun _ _ _ _ _ h => h) (by rfl) ?_ (fun _ => hC) ?_
            rotate_left
            · intro w
              go_simp
              try with_reducible rfl
            (try simp only [Act.put, List.setIfInBounds_toArray, List.set_cons_zero, List.set_cons_succ])
            refine takeL (i := 3) (d := 95) (v := ?_) rfl rfl (by kernel_rfl) (by kernel_rfl) (by kernel_rfl) (by kernel_rfl) (by kernel_rfl) (by kernel_rfl) (fun _ _ _ _ _ h => h) (by rfl) ?_ hC ?_
            rotate_left
            · intro w hSw
              (try dsimp only at hSw)
              obtain ⟨hS0, hS1, hS2⟩ := hSw
              go_simp
              try with_reducible rfl
            (try simp only [Act.put, List.setIfInBounds_toArray, List.set_cons_zero, List.set_cons_succ])
            refine takeL (i := 7) (d := 99) (v := ?_) rfl rfl (by kernel_rfl) (by kernel_rfl) (by kernel_rfl) (by kernel_rfl) (by kernel_rfl) (by kernel_rfl) (fun _ _ _ _ _ h => h) (by rfl) ?_ hC ?_
            rotate_left
            · intro w hSw
              (try dsimp only at hSw)
              obtain ⟨hS0, hS1, hS2⟩ := hSw
              go_simp
              try with_reducible rfl
            (try simp only [Act.put, List.setIfInBounds_toArray, List.set_cons_zero, List.set_cons_succ])
            refine takeL0 (i := 9) (d := 101) (v := ?_) rfl rfl (by kernel_rfl) (by kernel_rfl) (by kernel_rfl) (by kernel_rfl) (fun _ _ _ _ _ h => h) (by rfl) ?_ (fun _ => hC) ?_
            rotate_left
            · intro w
              go_simp
              try with_reducible rfl
            (try simp only [Act.put, List.setIfInBounds_toArray, List.set_cons_zero, List.set_cons_succ])
            refine takeL (i := 10) (d := 102) (v := ?_) rfl rfl (by kernel_rfl) (by kernel_rfl) (by kernel_rfl) (by kernel_rfl) (by kernel_rfl) (by kernel_rfl) (fun _ _ _ _ _ h => h) (by rfl) ?_ hC ?_
            rotate_left
            · intro w hSw
              (try dsimp only at hSw)
              obtain ⟨hS0, hS1, hS2⟩ := hSw
              go_simp
              try with_reducible rfl
            (try simp only [Act.put, List.setIfInBounds_toArray, List.set_cons_zero, List.set_cons_succ])
            refine takeL0 (i := 11) (d := 103) (v := ?_) rfl rfl (by kernel_rfl) (by kernel_rfl) (by kernel_rfl) (by kernel_rfl) (fun _ _ _ _ _ h => h) (by rfl) ?_ (fun _ => hC) ?_
            rotate_left
            · intro w
              go_simp
              try with_reducible rfl
            (try simp only [Act.put, List.setIfInBounds_toArray, List.set_cons_zero, List.set_cons_succ])
            refine nextL (i := 12) rfl (by kernel_rfl) (fun K hK => ?_)
            go_simp
            refine (pull_any p v xs (rm + 1) _ HD.out.chute (by omega) (by omega)).mono ?_
            rintro e w6 ⟨x, rfl, x0, x9, hc6, ht6⟩
            have HM6 := Lib.hid (HD.out.turn hc6 ht6)
            clear hc6 ht6 hC
            have hC := HK.out _ HM6.out
            go_simp
            refine hK.out _ _ (fun _ => hC) ?_
            clear hK K
            (try simp only [Act.put, List.setIfInBounds_toArray, List.set_cons_zero, List.set_cons_succ])
            refine takeL0 (i := 13) (d := 105) (v := ?_) rfl rfl (by kernel_rfl) (by kernel_rfl) (by kernel_rfl) (by kernel_rfl) (fun _ _ _ _ _ h => h) (by rfl) ?_ (fun _ => hC) ?_
            rotate_left
            · intro w
              go_simp
              try with_reducible rfl
            (try simp only [Act.put, List.setIfInBounds_toArray, List.set_cons_zero, List.set_cons_succ])
            refine nextL (i := 14) rfl (by kernel_rfl) (fun K hK => ?_)
            have hMT : MatTo w6 w1.heap.size n (h + 1) nb' M' := HM6.out.at 6 rfl
            have hcx := (hMT.row h (by omega)).cell hlt
            have hfx := (hMT.row h (by omega)).free h
            have HM7 := Lib.hid (HM6.out.setTo (a := h) (o := h) (by omega) hlt x)
            clear hMT hC
            go_simp
            clear hcx hfx
            refine hK.out _ _ (Till.done (by kernel_rfl)) ?_
            clear hK K
            (try simp only [Act.put, List.setIfInBounds_toArray, List.set_cons_zero, List.set_cons_succ])
            refine anyL_done (by kernel_rfl) ?_ _
            refine NoPanic.normal ?_
            have HRB' := HRB.out
            have HM8 : Hid (MidAt p n (h + 1) (h + 1) v xs w1.heap.size w (RunsTo (h + 1) (2 * (h + 1))) (w6.setCell ⟨nb' h, h, none⟩ (.int .i64 x))) := by
              have e : setM M' h h x = fun j => if j = h then (fun b => if b = h then x else 0) else M j := by
                rw [← HME.out]; funext a b
                by_cases ea : a = h <;> by_cases eb : b = h <;> simp [setM, ea, eb]
              have HM7' := HM7.out
              rw [e] at HM7'
              exact ⟨_, tv, uv, rooms, traps, rs, nb', _, HS.out.row ⟨x0, by rw [HRM.out]; omega⟩ _ (fun j => rfl), HM7'⟩
            clear HRB' HM7 HM6 HD HK HRC HRB HS HM0 HR4
            go_wp2_with fail
            go_roundw
            case rel => exact ⟨h + 1, by omega, by go_num, HM8⟩
            case measure => simp [intOf]; omega
    · obtain rfl : n = h := by omega
      obtain ⟨rv, tv, uv, rooms, traps, rs, nb, M, hS, hM⟩ := HR.out
      have HS := Lib.hid hS
      have HM1 := Lib.hid (nights_begin hM)
      clear hS hM HR
      go_wp2_with fail
      refine (pull_any p v xs (ns + 1) _ HM1.out.chute (by omega) (by omega)).mono ?_
      rintro e w2 ⟨K, rfl, K0, K1, hc2, ht2⟩
      obtain ⟨K, rfl⟩ : ∃ k : Nat, K = k := ⟨K.toNat, by omega⟩
      obtain ⟨bt, hbt⟩ : ∃ bt, wr.heap.size = bt := ⟨_, rfl⟩
      rw [hbt] at HM1 ⊢
      have hKns : (K : Int) ≤ ns := by omega
      have HN0 := Lib.hid (night_begins HS.out (HM1.out.turn hc2 ht2))
      clear hc2 ht2 HM1 hbt K1
      go_wp2_with fail
      obtain ⟨wo, rfl⟩ : ∃ wo : World, wo = wr := ⟨_, rfl⟩
      go_loopw [11, 111] (fun mv i wq => ∃ k : Nat, k ≤ K ∧ i = .int .i64 k ∧ Hid (NightAt p n k v xs w rv tv uv rooms traps rs bt (Ends rooms traps rs k) mv wq)) (fun _ i _ => K - (intOf i).toNat)
      case atStart => exact ⟨0, Nat.zero_le _, rfl, HN0⟩
      case round =>
        obtain ⟨k, hk, rfl, HR⟩ := hrel
        by_cases hlt : k < K
        · skip
          have hki : (k : Int) < K := by omega
          go_upto_region 20 with (fail)
          go_cut [15] (fun s15 wx => s15 = .int .i64 k ∧ Hid (NightAt p n k v xs w rv tv uv rooms traps rs bt (Ends rooms traps rs k) u11 wx))
          case first =>
            go_wp2_with fail
            go_meet
            exact ⟨rfl, HR⟩
          case rest =>
            obtain ⟨rfl, HR1⟩ := hcut
            clear HR
            go_step
            go_step
            go_cut [11] (fun mv wx => Hid (NightAt p n k v xs w rv tv uv rooms traps rs bt (Before rooms traps rs k) mv wx))
            case first =>
              obtain ⟨g, q, nb, M, nv, cv, nbN, N, nbT, T, rfl, hq, hQ, hE, hM⟩ := HR1.out
              have HM := Lib.hid hM
              have HQ := Lib.hid hQ
              have HE := Lib.hid hE
              clear hM hQ hE HR1
              by_cases h0 : 0 < k
              · have h0i : (0 : Int) < k := by omega
                obtain ⟨c0, c1, c2, c3⟩ := four_at (HM.out.at 2 rfl)
                have hbd : ∀ i j, i < n → j < n → 0 ≤ M i j ∧ M i j ≤ 100 := fun i j hi hj => by
                  have hl := HS.out.lenR
                  have := HQ.out.bound (fun i hi => HS.out.roomB i (by omega)) (h := i) (f := j) (by omega) (by omega)
                  omega
                have hf := HS.out.runs.few
                go_wp2_with fail
                refine (run_any p g n q w.heap.size v xs rv tv uv nv rs nb M wc HM.out.chute (HM.out.at 6 rfl) hq hn0 hn6 hbd (HM.out.at 5 rfl) HS.out.runs.runs (by omega) (fun j hj => by
                  have := (HM.out.sep.lt 6 _ rfl (nb j) (.inr ⟨j, hj, rfl⟩)).1
                  have := HM.out.low
                  omega)).mono ?_
                rintro e w3 ⟨g', q', nb', M', rfl, hq', hm', hg', hn', hc3, hf3, hok⟩
                have HM3 := Lib.hid (HM.out.ran 6 rfl hm' hg' hn' hc3 hf3)
                have HOK := Lib.hid hok
                clear hm' hg' hn' hc3 hf3 hok hbd c0 c1 c2 c3
                go_wp2_with fail
                go_meet
                have hok : RunOk rooms.length rs M M' := by rw [HS.out.lenR]; exact HOK.out
                have hb : Behind rooms traps rs (k - 1) N M := by
                  rcases HE.out with ⟨e, _⟩ | ⟨_, e⟩
                  · omega
                  · exact e
                have hbf := hb.run hok
                rw [Nat.sub_add_cancel (show 1 ≤ k by omega)] at hbf
                exact ⟨g', q', nb', M', nv, cv, nbN, N, nbT, T, rfl, hq', HQ.out.ran hok, hbf, HM3.out⟩
              · have h0i : ¬ (0 : Int) < k := by omega
                go_wp2_with fail
                go_meet
                have hb : Before rooms traps rs k N M := by
                  rcases HE.out with ⟨e, h2⟩ | ⟨e, _⟩
                  · rw [e]; exact h2
                  · omega
                exact ⟨g, q, nb, M, nv, cv, nbN, N, nbT, T, rfl, hq, HQ.out, hb, HM.out⟩
            case rest =>
              have HR2 := hcut
              clear hcut HR1
              obtain ⟨g, q, nb, M, nv, cv, nbN, N, nbT, T, rfl, hq, hQ, hE, hM⟩ := HR2.out
              have HM := Lib.hid hM
              have HQ := Lib.hid hQ
              have HE := Lib.hid hE
              clear hM hQ hE HR2
              obtain ⟨bt1, ct1, rfl, hct, _⟩ := int_row_cells (HM.out.at 4 rfl) HS.out.lenT hn0
              have hc1 := (box_of (HM.out.at 2 rfl)).2
              have hMp : ∀ a e, a < n → e < n → 0 ≤ M a e ∧ M a e ≤ 8 := fun a e ha he => by
                have hl := HS.out.lenR
                exact HQ.out.bound (fun i hi => HS.out.roomB i (by omega)) (by omega) (by omega)
              have HMP := Lib.hid hMp
              have hTl : T.length ≤ 30 := by
                have h1 := HQ.out.lenT
                rw [HS.out.lenR] at h1
                have : k * n ≤ 5 * 6 := Nat.mul_le_mul (by omega) hn6
                omega
              clear hMp
              go_wp2_with fail
              clear hc1
              obtain ⟨wo2, rfl⟩ : ∃ wo2 : World, wo2 = wr := ⟨_, rfl⟩
              go_loopw [16, 123] (fun nt i wq => ∃ j : Nat, j ≤ n ∧ i = .int .i64 j ∧ Hid (HouseAt p n v xs w rv (.slice (some ⟨bt1, 0, none⟩) n ct1) uv rooms traps rs bt nv g nb M nbN N T j nt wq)) (fun _ i _ => n - (intOf i).toNat)
              case atStart => exact ⟨0, Nat.zero_le _, rfl, M, cv, nbT, [], [], HouseIs.start _ _ _, by rw [List.append_nil]; exact HM.out.newRow 3 1⟩
              case round =>
                obtain ⟨j, hj, rfl, HR⟩ := hrel
                by_cases hjn : j < n
                · have hji : (j : Int) < n := by omega
                  obtain ⟨X, cv2, nbT2, rows, row, hI, hM2⟩ := HR.out
                  have HI := Lib.hid hI
                  have HM2 := Lib.hid hM2
                  have hcj : wr.cell? ⟨bt1, j, none⟩ = some (.int .i64 (nth traps j)) := by
                    obtain ⟨b2, c2, e1, _, e2⟩ := int_row_cells (hM2.at 4 rfl) HS.out.lenT hn0
                    cases e1
                    exact e2 j hjn
                  obtain ⟨t, ht⟩ : ∃ t : Nat, nth traps j = t := ⟨(nth traps j).toNat, by have := HS.out.trapB j hjn; omega⟩
                  have ht3 : t ≤ 3 := by have := HS.out.trapB j hjn; omega
                  rw [ht] at hcj
                  have HTJ := Lib.hid ht
                  clear hI hM2 HR ht
                  go_wp2_with fail
                  obtain ⟨b9, hb9⟩ : ∃ b9, wr.heap.size = b9 := ⟨_, rfl⟩
                  have hXj : X j = M j := funext (HI.out.rest j (Nat.le_refl _))
                  have HT0 : Hid (TrapAt p n v xs w rv (.slice (some ⟨bt1, 0, none⟩) n ct1) uv rooms traps rs bt nv cv2 g nb M X nbN N nbT2 (T ++ rows) j u16 row b9 0 (wr.alloc (.cells (intsV (List.replicate n 0)).toArray 3))) := by
                    have h1 := HM2.out.newInts n
                    rw [hb9] at h1
                    refine ⟨X j, fun _ => 0, by rw [hXj]; exact CatchUp.start (fun e he => (HMP.out j e hjn he).1), ?_⟩
                    rw [setRow_self]
                    exact h1
                  rw [hb9]
                  clear hb9 hXj hcj
                  obtain ⟨wo3, rfl⟩ : ∃ wo3 : World, wo3 = wr := ⟨_, rfl⟩
                  go_loopw [131] (fun i wq => ∃ c : Nat, c ≤ t ∧ i = .int .i64 c ∧ Hid (TrapAt p n v xs w rv (.slice (some ⟨bt1, 0, none⟩) n ct1) uv rooms traps rs bt nv cv2 g nb M X nbN N nbT2 (T ++ rows) j u16 row b9 c wq)) (fun i _ => t - (intOf i).toNat)
                  case atStart => exact ⟨0, Nat.zero_le _, rfl, HT0⟩
                  case round =>
                    obtain ⟨c, hc, rfl, HR⟩ := hrel
                    by_cases hct : c < t
                    · have hci : (c : Int) < t := by omega
                      obtain ⟨R, f, hU, hM3⟩ := HR.out
                      have HU := Lib.hid hU
                      have HM3 := Lib.hid hM3
                      clear hU hM3 HR HT0
                      go_wp2_with fail
                      refine (pull_any p v xs n _ HM3.out.chute (by omega) (by omega)).mono ?_
                      rintro e w4 ⟨x, rfl, x0, x1, hc4, ht4⟩
                      obtain ⟨q0, rfl⟩ : ∃ q : Nat, x = q := ⟨x.toNat, by omega⟩
                      have hq0 : q0 < n := by omega
                      have HM4 := Lib.hid (HM3.out.turn hc4 ht4)
                      have hMat : MatAt w4 g n nb (setRow X j R) := HM4.out.at 6 rfl
                      obtain ⟨cj, hcj, hm1⟩ := hMat.cell hjn
                      have hRow := hMat.row j hjn
                      rw [setRow_at] at hRow
                      have hRB : ∀ e, e < n → 0 ≤ R e ∧ R e ≤ 8 ∧ 0 ≤ f e ∧ f e ≤ 8 := fun e he => by
                        have h1 := HU.out.pos e he
                        have h2 := HMP.out j e hjn he
                        omega
                      have HRB := Lib.hid hRB
                      have HROW := Lib.hid hRow
                      clear hc4 ht4 hMat hRB hRow x1
                      go_wp2_with fail
                      refine (total_any (nb j) n cj R w4 HROW.out (by omega) (fun e he => by have := HRB.out e he; omega)).mono ?_
                      rintro e w5 ⟨rfl, rfl⟩
                      rw [sumT_eq]
                      by_cases hsum : 0 < sumN R n
                      · obtain ⟨f0, hf0, hR0⟩ := sumN_ex hsum
                        have hnz : ¬ (n : Int) = 0 := by omega
                        go_wp2_with fail
                        obtain ⟨wo4, rfl⟩ : ∃ wo4 : World, wo4 = wr := ⟨_, rfl⟩
                        go_loopw [20] (fun fv wq => ∃ q : Nat, q < n ∧ fv = .int .i64 q ∧ w4 = wq) (fun fv _ => onTo n (intOf fv).toNat f0)
                        case atStart => exact ⟨q0, hq0, rfl, rfl⟩
                        case round =>
                          obtain ⟨q, hq, rfl, rfl⟩ := hrel
                          have hqi : (q : Int) < n := by omega
                          have hm2 := HROW.out.cell hq
                          have hRq := HRB.out q hq
                          obtain ⟨rq, hrq⟩ : ∃ rq, R q = rq := ⟨_, rfl⟩
                          rw [hrq] at hm2 hRq
                          have HRQ := Lib.hid hrq
                          by_cases hz : rq = 0
                          · have hne : q ≠ f0 := by
                              rintro rfl
                              omega
                            have hrem := next_rem hq
                            have hw1 : IntKind.i64.wrap ((q : Int) + 1) = (q : Int) + 1 := by rw [IntKind.wrap_i64]; omega
                            have hnl := nextOf_lt hq
                            have hw2 : IntKind.i64.wrap (nextOf n q : Int) = (nextOf n q : Int) := by rw [IntKind.wrap_i64]; omega
                            have hon := onTo_next hq hf0 hne
                            clear hrq
                            subst hz
                            have HON := Lib.hid (And.intro hon hnl)
                            clear hon hnl hne hRq
                            go_wp2_with fail
                            go_roundw
                            case rel => exact ⟨nextOf n q, HON.out.2, by first | trivial | rfl, by first | trivial | rfl⟩
                            case measure => simpa [intOf] using HON.out.1
                          · clear hrq
                            have hrp : 0 < rq := by omega
                            have hfq := HRB.out q hq
                            obtain ⟨fq, hfqe⟩ : ∃ fq, f q = fq := ⟨_, rfl⟩
                            have hfr := HROW.out.free q
                            have HM5 := Lib.hid (HM4.out.setMat 6 rfl hjn hq (rq - 1))
                            have hB5 : IntBlk (w4.setCell ⟨nb j, q, none⟩ (.int .i64 (rq - 1))) b9 n f := HM5.out.at 11 rfl
                            have hb9c := hB5.cell hq
                            have hb9f := hB5.free q
                            rw [hfqe] at hb9c hfq
                            have HM6 := Lib.hid (HM5.out.setInt 11 rfl hq (fq + 1))
                            have hw1 : IntKind.i64.wrap (rq - 1) = rq - 1 := by rw [IntKind.wrap_i64]; omega
                            have hw2 : IntKind.i64.wrap (fq + 1) = fq + 1 := by rw [IntKind.wrap_i64]; omega
                            have HFQ := Lib.hid hfqe
                            clear hfqe hB5 hRq hfq
                            go_wp2_with fail
                            go_roundw
                            case rel =>
                              refine ⟨c + 1, by omega, by go_num, _, _, HU.out.more hq (by rw [HRQ.out]; exact hrp), HM6.out.same ?_⟩
                              rw [setRow_set, HRQ.out, HFQ.out]
                              rfl
                            case measure => simp [intOf]; omega
                      · have HT1 : Hid (TrapAt p n v xs w rv (.slice (some ⟨bt1, 0, none⟩) n ct1) uv rooms traps rs bt nv cv2 g nb M X nbN N nbT2 (T ++ rows) j u16 row b9 (c + 1) w4) := by
                          refine ⟨R, f, HU.out.skip ?_, HM4.out⟩
                          have := sumN_nonneg (f := R) (n := n) (fun e he => (HRB.out e he).1)
                          omega
                        go_wp2_with fail
                        go_roundw
                        case rel => exact ⟨c + 1, by omega, by go_num, HT1⟩
                        case measure => simp [intOf]; omega
                    · obtain rfl : t = c := by omega
                      obtain ⟨R, f, hU, hM3⟩ := HR.out
                      have HU := Lib.hid hU.done
                      have hlenR := HI.out.lenRows
                      have hlen : (T ++ rows).length ≤ 1000 := by rw [List.length_append]; omega
                      obtain ⟨T2, hT2⟩ : ∃ T2, T ++ rows = T2 := ⟨_, rfl⟩
                      obtain ⟨r1, hr1⟩ : ∃ r1, (List.range n).map f = r1 := ⟨_, rfl⟩
                      rw [hT2] at hM3 hlen
                      have HT2 := Lib.hid hT2
                      have HM3 := Lib.hid hM3
                      clear hU hM3 HR HT0 hT2
                      have hc0 := (two_at (HM3.out.at 7 rfl)).1
                      have HM4 := Lib.hid (HM3.out.alloc (.cells #[.slice (some ⟨b9, 0, none⟩) n n] 22))
                      have HFB : Hid (∀ e, e < n → -1000 ≤ nth r1 e ∧ nth r1 e ≤ 1000) := fun e he => by
                        rw [← hr1, nth_ofRange f he]
                        have h1 := HU.out.pos e he
                        have h2 := HMP.out j e hjn he
                        omega
                      go_wp2_with (at_builtin; refine HM4.out.list_rows' hr1 9 11 rfl rfl (by decide) hlen (Nat.le_refl _) rfl _ _ rfl rfl wr.heap.size rfl (cell_one_new _ _ _) ?_)
                      intro g5 cap5 w5 hm5
                      obtain ⟨_, hrs5⟩ : (pRows w.heap.size n (.slice (some ⟨g5, 0, none⟩) (T2.length + 1) cap5) (fun t => if t = T2.length then b9 else nbT2 t) (T2 ++ [r1])).told w5 := hm5.at 9 rfl
                      have hB9 := (hrs5 T2.length (by simp)).2
                      rw [nthR_new] at hB9
                      simp only [if_pos] at hB9
                      have HM5 := Lib.hid hm5
                      have HB9 := Lib.hid hB9
                      clear hm5 hrs5 hB9 hc0
                      go_wp2_with fail
                      refine (total_any b9 n n (nth r1) w5 HB9.out (by omega) HFB.out).mono ?_
                      rintro e w6 ⟨rfl, rfl⟩
                      have hsum : sumT (nth r1) n = sumN f n := by rw [sumT_eq]; exact sumN_congr fun e he => by rw [← hr1]; exact nth_ofRange f he
                      rw [hsum]
                      have HR1 := Lib.hid hr1
                      clear hsum hr1
                      have HM6 := Lib.hid (HM5.out.alloc (.cells #[.int .i64 (sumN f n)] 3))
                      go_wp2_with (at_builtin; refine HM6.out.list_int 10 row (sumN f n) rfl (by omega) rfl _ _ rfl rfl w5.heap.size rfl (cell_one_new _ _ _) ?_)
                      intro g7 cap7 w7 hm7 _ _
                      have hc0 := (two_at (hm7.at 7 rfl)).1
                      have hcf := box_free (hm7.at 7 rfl) 0
                      have HM8 := Lib.hid (hm7.setBlk 7 rfl 0 (.slice (some ⟨g5, 0, none⟩) (T2.length + 1) cap5))
                      clear hm7
                      go_wp2_with fail
                      go_roundw
                      case rel =>
                        refine ⟨j + 1, by omega, by go_num, setRow X j R, .slice (some ⟨g5, 0, none⟩) (T2.length + 1) cap5, fun t => if t = T2.length then b9 else nbT2 t, rows ++ [r1], row ++ [sumN f n], ?_, ?_⟩
                        · rw [← HR1.out]
                          exact HI.out.more (by rw [HTJ.out]; exact HU.out)
                        · rw [← List.append_assoc, HT2.out]
                          exact (HM8.out.same (ps' := (nightParts w.heap.size rv (.slice (some ⟨bt1, 0, none⟩) n ct1) uv nv n g rooms traps rs nb (setRow X j R) bt (.slice (some ⟨g5, 0, none⟩) (T2.length + 1) cap5) (.slice none 0 0) nbN N (fun t => if t = T2.length then b9 else nbT2 t) (T2 ++ [r1]) ++ [pRow w.heap.size 3 1 (j + 1) (.slice (some ⟨g7, 0, none⟩) (j + 1) cap7) (intsV (row ++ [sumN f n]))]) ++ [Part.none]) rfl).left
                      case measure => simp [intOf]; omega
                · obtain rfl : n = j := by omega
                  obtain ⟨X, cv2, nbT2, rows, row, hI, hM2⟩ := HR.out
                  have HI := Lib.hid hI
                  obtain ⟨gn, cn, rfl, hcn, _⟩ := int_row_cells (hM2.at 10 rfl) hI.lenRow hn0
                  have hc3 := (four_at (hM2.at 2 rfl)).2.2.2
                  have HM2 := Lib.hid ((hM2.rowInt 10 rfl hI.lenRow).alloc (.cells #[.slice (some ⟨gn, 0, none⟩) n cn] 22))
                  have hNl : N.length ≤ 1000 := by have := HQ.out.lenN; omega
                  clear hI hM2 HR
                  go_wp2_with (at_builtin; refine HM2.out.list_rows' (list_range_nth row n HI.out.lenRow) 8 10 rfl rfl (by decide) hNl hcn rfl _ _ rfl rfl wr.heap.size rfl (cell_one_new _ _ _) ?_)
                  intro g5 cap5 w5 hm5
                  have hc3' := (four_at (hm5.at 2 rfl)).2.2.2
                  have hcf := box_free (hm5.at 2 rfl) 3
                  have HM6 := Lib.hid (hm5.setBlk 2 rfl 3 (.slice (some ⟨g5, 0, none⟩) (N.length + 1) cap5))
                  clear hm5 hc3
                  have hnew := HI.out.night HS.out.lenR HQ.out HE.out
                  have HNW := Lib.hid hnew
                  clear hnew
                  go_wp2_with fail
                  go_roundw
                  case rel =>
                    refine ⟨k + 1, by omega, by go_num, g, q, nb, X, .slice (some ⟨g5, 0, none⟩) (N.length + 1) cap5, cv2, fun t => if t = N.length then gn else nbN t, N ++ [row], nbT2, T ++ rows, rfl, hq, HNW.out.1, .inr ⟨by omega, HNW.out.2⟩, ?_⟩
                    exact (HM6.out.same (ps' := nightParts w.heap.size rv (.slice (some ⟨bt1, 0, none⟩) n ct1) uv (.slice (some ⟨g5, 0, none⟩) (N.length + 1) cap5) n g rooms traps rs nb X bt cv2 (.slice none 0 0) (fun t => if t = N.length then gn else nbN t) (N ++ [row]) nbT2 (T ++ rows) ++ [Part.none]) rfl).left
                  case measure => simp [intOf]; omega
        · obtain rfl : K = k := by omega
          obtain ⟨g, q, nb, M, nv, cv, nbN, N, nbT, T, rfl, hq, hQ, hE, hM⟩ := HR.out
          have HM := Lib.hid hM
          have HQ := Lib.hid (And.intro hQ hE)
          have hMp : ∀ a e, a < n → e < n → 0 ≤ M a e ∧ M a e ≤ 8 := fun a e ha he => by
            have hl := HS.out.lenR
            exact hQ.bound (fun i hi => HS.out.roomB i (by omega)) (by omega) (by omega)
          have HMP := Lib.hid hMp
          have hc1 := (two_at ((hM.alloc (.cells (intsV (List.replicate n 0)).toArray 3)).at 7 rfl)).2
          have hcf := box_free ((hM.alloc (.cells (intsV (List.replicate n 0)).toArray 3)).at 7 rfl) 1
          have HM2 := Lib.hid (((hM.newInts n).setBlk 7 rfl 1 (.slice (some ⟨wr.heap.size, 0, none⟩) n n)).newRow 3 1)
          clear hM hQ hE HR hMp
          go_wp2_with fail
          obtain ⟨bL, hbL⟩ : ∃ bL, wr.heap.size = bL := ⟨_, rfl⟩
          rw [hbL] at HM2 ⊢
          obtain ⟨W2, hW2⟩ : ∃ W2, (wr.alloc (.cells (intsV (List.replicate n 0)).toArray 3)).setCell ⟨bt, 1, none⟩ (.slice (some ⟨bL, 0, none⟩) n n) = W2 := ⟨_, rfl⟩
          rw [hW2] at HM2 ⊢
          clear hc1 hcf hbL hW2
          obtain ⟨wo5, rfl⟩ : ∃ wo5 : World, wo5 = wr := ⟨_, rfl⟩
          go_loopw [21, 194] (fun lt i wq => ∃ h : Nat, h ≤ n ∧ i = .int .i64 h ∧ Hid (LeftAt p n v xs w rv tv uv rooms traps rs bt nv cv (.slice (some ⟨bL, 0, none⟩) n n) g nb M nbN N nbT T bL h lt wq)) (fun _ i _ => n - (intOf i).toNat)
          case atStart => exact ⟨0, Nat.zero_le _, rfl, [], fun _ => 0, LeftIs.start _ _, HM2.out⟩
          case round =>
            obtain ⟨h, hh, rfl, HR⟩ := hrel
            by_cases hhn : h < n
            · have hhi : (h : Int) < n := by omega
              obtain ⟨left, L, hL, hM3⟩ := HR.out
              have HL := Lib.hid hL
              have HM3 := Lib.hid hM3
              have hMat : MatAt wr g n nb M := hM3.at 6 rfl
              obtain ⟨ch, hch, hm1⟩ := hMat.cell hhn
              have HROW := Lib.hid (hMat.row h hhn)
              clear hL hM3 hMat HR
              go_wp2_with fail
              refine (total_any (nb h) n ch (M h) wr HROW.out (by omega) (fun e he => by have := HMP.out h e hhn he; omega)).mono ?_
              rintro e w3 ⟨rfl, rfl⟩
              rw [sumT_eq]
              have HM4 := Lib.hid (HM3.out.alloc (.cells #[.int .i64 (sumN (M h) n)] 3))
              have hll := HL.out.len
              clear hm1
              go_wp2_with (at_builtin; refine HM4.out.list_int 11 left (sumN (M h) n) rfl (by omega) rfl _ _ rfl rfl wr.heap.size rfl (cell_one_new _ _ _) ?_)
              intro g7 cap7 w7 hm7 _ _
              have hMat : MatAt w7 g n nb M := hm7.at 6 rfl
              obtain ⟨ch', hch', hm1⟩ := hMat.cell hhn
              have HM7 := Lib.hid hm7
              clear hm7 hMat hll
              go_wp2_with fail
              clear hm1
              obtain ⟨wo6, rfl⟩ : ∃ wo6 : World, wo6 = wr := ⟨_, rfl⟩
              go_loopw [210] (fun i wq => ∃ f : Nat, f ≤ n ∧ i = .int .i64 f ∧ Hid (LeftIn p n v xs w rv tv uv rooms traps rs bt nv cv (.slice (some ⟨bL, 0, none⟩) n n) g nb M nbN N nbT T bL h (.slice (some ⟨g7, 0, none⟩) (h + 1) cap7) (left ++ [sumN (M h) n]) L f wq)) (fun i _ => n - (intOf i).toNat)
              case atStart => exact ⟨0, Nat.zero_le _, rfl, L, fun e => by simp, HM7.out⟩
              case round =>
                obtain ⟨f, hf, rfl, HR⟩ := hrel
                by_cases hfn : f < n
                · have hfi : (f : Int) < n := by omega
                  obtain ⟨L', hL', hM8⟩ := HR.out
                  have HL' := Lib.hid hL'
                  have HM8 := Lib.hid hM8
                  have hMat : MatAt wr g n nb M := hM8.at 6 rfl
                  have hm2 := (hMat.row h hhn).cell hfn
                  have hc1 := (two_at (hM8.at 7 rfl)).2
                  have hB : IntBlk wr bL n L' := hM8.at 10 rfl
                  have hb1 := hB.cell hfn
                  have hb2 := hB.free f
                  have hMb := HMP.out h f hhn hfn
                  obtain ⟨mf, hmf⟩ : ∃ mf, M h f = mf := ⟨_, rfl⟩
                  obtain ⟨lf, hlf⟩ : ∃ lf, L' f = lf := ⟨_, rfl⟩
                  rw [hmf] at hm2 hMb
                  rw [hlf] at hb1
                  have hlb : 0 ≤ lf ∧ lf ≤ 48 := by
                    have e1 := HL'.out f
                    rw [if_neg (by omega), HL.out.by_ f hfn, hlf] at e1
                    have e2 := sumN_nonneg (f := fun i => M i f) (n := h) (fun i hi => (HMP.out i f (by omega) hfn).1)
                    have e3 := sumN_bound (f := fun i => M i f) (n := h) (b := 8) (fun i hi => (HMP.out i f (by omega) hfn).2)
                    omega
                  have hw1 : IntKind.i64.wrap (lf + mf) = lf + mf := by rw [IntKind.wrap_i64]; omega
                  have HM9 := Lib.hid (HM8.out.setInt 10 rfl hfn (lf + mf))
                  have HMF := Lib.hid (And.intro hmf hlf)
                  clear hL' hM8 HR hMat hB hmf hlf hMb hlb
                  go_wp2_with fail
                  go_roundw
                  case rel =>
                    refine ⟨f + 1, by omega, by go_num, fun e => if e = f then lf + mf else L' e, fun e => ?_, HM9.out⟩
                    have e1 := HL'.out e
                    show (if e = f then lf + mf else L' e) = _
                    by_cases c : e = f
                    · subst c
                      rw [if_pos rfl, if_pos (by omega), HMF.out.1, ← HMF.out.2, e1, if_neg (by omega)]
                      omega
                    · rw [if_neg c, e1]
                      by_cases c2 : e < f
                      · rw [if_pos c2, if_pos (by omega)]
                      · rw [if_neg c2, if_neg (by omega)]
                  case measure => simp [intOf]; omega
                · obtain rfl : n = f := by omega
                  obtain ⟨L', hL', hM8⟩ := HR.out
                  have HM9 : Hid (LeftAt p n v xs w rv tv uv rooms traps rs bt nv cv (.slice (some ⟨bL, 0, none⟩) n n) g nb M nbN N nbT T bL (h + 1) (.slice (some ⟨g7, 0, none⟩) (h + 1) cap7) wr) := by
                    refine ⟨left ++ [sumN (M h) n], _, HL.out.more, hM8.part 10 rfl (pInt bL n (fun f => L f + M h f)) (IntBlk.same (hM8.at 10 rfl) (fun j hj => ?_)) (fun k hk => hk)⟩
                    rw [hL' j, if_pos hj]
                  clear hL' hM8 HR
                  go_wp2_with fail
                  go_roundw
                  case rel => exact ⟨h + 1, by omega, by go_num, HM9⟩
                  case measure => simp [intOf]; omega
            · obtain rfl : n = h := by omega
              obtain ⟨left, L, hL, hM3⟩ := HR.out
              have HL := Lib.hid hL
              obtain ⟨ar, cr, rfl⟩ := owns_slice (hM3.at 3 rfl)
              obtain ⟨at_, ct, rfl⟩ := owns_slice (hM3.at 4 rfl)
              obtain ⟨au, cu, rfl⟩ := owns_slice (hM3.at 5 rfl)
              obtain ⟨⟨fsN, hownN, _⟩, _⟩ : (pRows w.heap.size n nv nbN N).told wr := hM3.at 8 rfl
              obtain ⟨⟨fsT, hownT, _⟩, _⟩ : (pRows w.heap.size n cv nbT T).told wr := hM3.at 9 rfl
              obtain ⟨an, cn, rfl⟩ := owns_slice hownN
              obtain ⟨ac, cc, rfl⟩ := owns_slice hownT
              have HM4 := Lib.hid hM3.drew
              have s1 := hM3.setBlk 0 rfl 0 (.slice ar n cr)
              have s2 := s1.setBlk 0 rfl 1 (.slice at_ n ct)
              have s3 := s2.setBlk 0 rfl 2 (.slice au rs.length cu)
              have HS4 := Lib.hid (s3.setBlk 0 rfl 3 (.slice an N.length cn))
              have z1 := (four_at (s1.at 0 rfl)).2.1
              have z2 := (four_at (s2.at 0 rfl)).2.2.1
              have z3 := (four_at (s3.at 0 rfl)).2.2.2
              have f1 := box_free (s1.at 0 rfl) 1
              have f2 := box_free (s2.at 0 rfl) 2
              have f3 := box_free (s3.at 0 rfl) 3
              clear hL hM3 HR hownN hownT s1 s2 s3
              go_upto_region 53 with (fail)
              have hC := box6_of (HM4.out.at 2 rfl) (HM4.out.at 7 rfl)
              obtain ⟨z0, _⟩ := four_at (HM4.out.at 0 rfl)
              have f0 := box_free (HM4.out.at 0 rfl) 0
              refine wp_region_noPanic ?_
              refine anyL_start (S := Till [4] (Box6 (w.heap.size + 1 + 1) bt (.slice ar n cr) (.slice at_ n ct) (.slice au rs.length cu) (.slice an N.length cn) (.slice ac T.length cc) (.slice (some ⟨bL, 0, none⟩) n n))) (by kernel_rfl) (fun _ => hC) (fun hT => ?_)
              refine takeL0 (i := 2) (d := 227) (v := ?_) rfl rfl (by kernel_rfl) (by kernel_rfl) (by kernel_rfl) (by kernel_rfl) (fun _ _ _ _ _ h => h) (by rfl) ?_ (fun _ => hC) ?_
              rotate_left
              · intro w
                go_simp
                try with_reducible rfl
              (try simp only [Act.put, List.setIfInBounds_toArray, List.set_cons_zero, List.set_cons_succ])
              refine takeL (i := 0) (d := 225) (v := ?_) rfl rfl (by kernel_rfl) (by kernel_rfl) (by kernel_rfl) (by kernel_rfl) (by kernel_rfl) (by kernel_rfl) (fun _ _ _ _ _ h => h) (by rfl) ?_ hC ?_
              rotate_left
              · intro w hSw
                (try dsimp only at hSw)
                obtain ⟨hS0, hS1, hS2, hS3, hS4, hS5⟩ := hSw
                go_simp
                try with_reducible rfl
              (try simp only [Act.put, List.setIfInBounds_toArray, List.set_cons_zero, List.set_cons_succ])
              refine takeL (i := 1) (d := 226) (v := ?_) rfl rfl (by kernel_rfl) (by kernel_rfl) (by kernel_rfl) (by kernel_rfl) (by kernel_rfl) (by kernel_rfl) (fun _ _ _ _ _ h => h) (by rfl) ?_ hC ?_
              rotate_left
              · intro w hSw
                (try dsimp only at hSw)
                obtain ⟨hS0, hS1, hS2, hS3, hS4, hS5⟩ := hSw
                go_simp
                try with_reducible rfl
              (try simp only [Act.put, List.setIfInBounds_toArray, List.set_cons_zero, List.set_cons_succ])
              refine nextL (i := 3) rfl (by kernel_rfl) (fun K hK => ?_)
              go_simp
              obtain ⟨W4, hW4⟩ : ∃ W4, (((wr.setCell ⟨w.heap.size, 0, none⟩ (.slice ar n cr)).setCell ⟨w.heap.size, 1, none⟩ (.slice at_ n ct)).setCell ⟨w.heap.size, 2, none⟩ (.slice au rs.length cu)).setCell ⟨w.heap.size, 3, none⟩ (.slice an N.length cn) = W4 := ⟨_, rfl⟩
              rw [hW4] at HS4 ⊢
              have HM5 := Lib.hid HS4.out.drew
              have s5 := HS4.out.setBlk 1 rfl 0 (.slice ac T.length cc)
              have HS6 := Lib.hid (s5.setBlk 1 rfl 1 (.slice (some ⟨bL, 0, none⟩) n n))
              clear hC z0 z1 z2 z3 f0 f1 f2 f3 hW4
              have hC := box6_of (HM5.out.at 2 rfl) (HM5.out.at 7 rfl)
              have y0 := (two_at (HM5.out.at 1 rfl)).1
              have y1 := (two_at (s5.at 1 rfl)).2
              have f0 := box_free (HM5.out.at 1 rfl) 0
              have f1 := box_free (s5.at 1 rfl) 1
              clear s5
              refine hK.out _ _ (fun _ => hC) ?_
              clear hK K
              (try simp only [Act.put, List.setIfInBounds_toArray, List.set_cons_zero, List.set_cons_succ])
              refine nextL (i := 4) rfl (by kernel_rfl) (fun K hK => ?_)
              go_simp
              clear hC y0 y1 f0 f1
              refine hK.out _ _ (Till.done (by kernel_rfl)) ?_
              clear hK K
              (try simp only [Act.put, List.setIfInBounds_toArray, List.set_cons_zero, List.set_cons_succ])
              refine takeL0 (i := 5) (d := 8) (v := ?_) rfl rfl (by kernel_rfl) (by kernel_rfl) (by kernel_rfl) (by kernel_rfl) (fun _ _ _ _ _ h => h) (by rfl) ?_ (Till.done (by kernel_rfl)) ?_
              rotate_left
              · intro w
                go_simp
                try with_reducible rfl
              (try simp only [Act.put, List.setIfInBounds_toArray, List.set_cons_zero, List.set_cons_succ])
              refine anyL_done (by kernel_rfl) ?_ _
              refine NoPanic.normal ?_
              have HM7 := Lib.hid HS6.out.drew
              go_wp2_with fail
              obtain ⟨W7, hW7⟩ : ∃ W7, ((W4.setCell ⟨w.heap.size + 1, 0, none⟩ (.slice ac T.length cc)).setCell ⟨w.heap.size + 1, 1, none⟩ (.slice (some ⟨bL, 0, none⟩) n n)).drew = W7 := ⟨_, rfl⟩
              have hM7 := HM7.out
              rw [hW7] at hM7 ⊢
              clear hW7
              obtain ⟨r0, r1, r2, r3⟩ := four_at (hM7.at 0 rfl)
              obtain ⟨t0, t1⟩ := two_at (hM7.at 1 rfl)
              refine bodyPost_ret (v := .tuple #[.agg #[.slice ar n cr, .slice at_ n ct, .slice au rs.length cu, .slice an N.length cn], .agg #[.slice ac T.length cc, .slice (some ⟨bL, 0, none⟩) n n], u21]) (by simp [results, Try.results34, go_sem, r0, r1, r2, r3, t0, t1]) rfl ?_
              have hS0 : SetIs n n n (RunsTo n (2 * n)) rooms traps rs (fun _ _ => 0) := ⟨HS.out.lenR, HS.out.lenT, HS.out.runs, HS.out.roomB, HS.out.trapB, fun a f ha hf => ⟨fun _ => rfl, Int.le_refl _, (HS.out.roomB a ha).1⟩⟩
              exact made_post (by omega) hn6 (by omega) (by omega) hn2 hS0 HQ.out.1 HQ.out.2 HL.out hM7 (hM7.sep.pick [3, 4, 5, 8, 9, 10, 11] (by decide))
end Go.Proofs.Ytnhifinfjfpoiaa
