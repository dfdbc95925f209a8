/- What a law's walk knows of memory, in one fact: parts that lie apart, and all that stood is as it was. A colony that Made gave, read. Contract of Own, once more: a colony whose parts lie apart in memory. Houses that are told, as a set. The houses that are told as short are houses of the colony. Contract of rat.Clash. The houses that Clash tells are short, in plain Lean. What the program's questions answer, without the reference, whatever the colony. -/
import Derived.Test.YtnhifinfjfpoiaaK11
import Derived.Test.YtnhifinfjfpoiaaK09
import Derived.Test.YtnhifinfjfpoiaaK05
import Derived.Test.YtnhifinfjfpoiaaK07
import Derived.Test.YtnhifinfjfpoiaaK02
import Derived.Test.YtnhifinfjfpoiaaK04
import Derived.Test.YtnhifinfjfpoiaaK06
import Derived.Test.YtnhifinfjfpoiaaK10
namespace Go.Proofs.Ytnhifinfjfpoiaa
open Go.RowKit
set_option linter.unusedVariables false
set_option linter.unusedSectionVars false

structure PW (w W : World) (ps : List Part) : Prop where
  sep : Sep W w.heap.size ps
  low : Below w.heap.size w W
/-- A chute; its bytes lie in what stood. -/
def pChute (p : Nat) (v : Value) (xs : List Int) : Part := ⟨fun k => k = p, fun W => ∃ used stir : Int, W.heap[p]? = some (.cells #[v, .int .i64 used, .int .u64 stir] 144 (0, 0)) ∧ 0 ≤ used ∧ used ≤ xs.length ∧ 0 ≤ stir, fun w w' hk h => by
  obtain ⟨u, s, h1, h2⟩ := h
  exact ⟨u, s, (hk p rfl).trans h1, h2⟩⟩
/-- Rows, each in a block of its own. -/
def pRowsI (B n : Nat) (v : Value) (nb : Nat → Nat) (rows : List (List Int)) : Part :=
  ⟨(pRows B n v nb rows).foot, fun w => (pRows B n v nb rows).told w ∧ ∀ i j, i < rows.length → j < rows.length → nb i = nb j → i = j, fun w w' hk h => ⟨(pRows B n v nb rows).stable w w' hk h.1, h.2⟩⟩
theorem rows_at' {W : World} {B n m q : Nat} {a : Option Addr} {nb : Nat → Nat} {rows : List (List Int)} (h : (pRows B n (.slice a m q) nb rows).told W) {i : Nat} (hi : i < rows.length) :
    ∃ b c, a = some ⟨b, 0, none⟩ ∧ n ≤ c ∧ W.cell? ⟨b, i, none⟩ = some (.slice (some ⟨nb i, 0, none⟩) n c) ∧ IntBlk W (nb i) n (nth (nthR rows i)) := by
  obtain ⟨⟨fs, hown, hfs⟩, hrows⟩ := h
  obtain ⟨c, hc, he⟩ := hfs i hi
  obtain ⟨_, ⟨_, h0⟩ | ⟨g, cap, cur, e, _, hg, hn, hm, hs, ht⟩⟩ := hown
  · omega
  · injection e with e1 e2 e3
    subst e1
    refine ⟨g, c, rfl, hc, (cell_of_row _ _ _ _ _ _ hg).trans ?_, (hrows i hi).2⟩
    rw [Nat.mul_one] at ht
    have h6 : (List.take rows.length cur.toList)[i]? = fs[i]? := by rw [ht]
    rw [List.getElem?_take, if_pos hi, Array.getElem?_toList] at h6
    rw [h6, he]
theorem rows_at {W : World} {B n m q : Nat} {a : Option Addr} {nb : Nat → Nat} {rows : List (List Int)} (h : (pRowsI B n (.slice a m q) nb rows).told W) {i : Nat} (hi : i < rows.length) :
    ∃ b c, a = some ⟨b, 0, none⟩ ∧ n ≤ c ∧ W.cell? ⟨b, i, none⟩ = some (.slice (some ⟨nb i, 0, none⟩) n c) ∧ IntBlk W (nb i) n (nth (nthR rows i)) := rows_at' h.1 hi
section
variable {w W W' : World} {ps ps' qs : List Part}
theorem PW.start (w : World) : PW w w [] := ⟨Sep.nil _ _, Below.refl _ _⟩
theorem PW.size (h : PW w W ps) : w.heap.size ≤ W.heap.size := h.low.size
theorem PW.hi (h : PW w W ps) (hb : Below w.heap.size W W') (hs : Sep W' w.heap.size ps') : PW w W' ps' := ⟨hs, h.low.trans hb⟩
theorem PW.below (h : PW w W ps) (hb : Below W.heap.size W W') : PW w W' ps := ⟨h.sep.below hb, h.low.trans (hb.mono h.size)⟩
theorem PW.drew (h : PW w W ps) : PW w W.drew ps := h.below (Below.refl _ _).drew
theorem PW.drewN (h : PW w W ps) (m : Nat) : PW w (W.drewN m) ps := h.below (Below.drewN (Below.refl _ _) m)
theorem PW.alloc (h : PW w W ps) (o : _) : PW w (W.alloc o) ps := h.below ((Below.refl _ _).alloc (Nat.le_refl _) o)
theorem PW.at (h : PW w W ps) (i : Nat) {x : Part} (hi : ps[i]? = some x) : x.told W := h.sep.told i x hi
theorem PW.same (h : PW w W ps) (e : ps = ps') : PW w W ps' := e ▸ h
theorem PW.setPart (h : PW w W ps) (i : Nat) {x : Part} (hi : ps[i]? = some x) (x' : Part) (hb : Below w.heap.size W W') (hf : ∀ k, w.heap.size ≤ k → k < W.heap.size → ¬ x.foot k → W'.heap[k]? = W.heap[k]?) (ht : x'.told W') (hx : ∀ k, x'.foot k → x.foot k ∨ (W.heap.size ≤ k ∧ k < W'.heap.size)) : PW w W' (ps.set i x') :=
  h.hi hb (h.sep.set' i hi x' hb.size h.size hf ht hx)
theorem PW.ge (h : PW w W ps) (i : Nat) {x : Part} (hi : ps[i]? = some x) {k : Nat} (hk : x.foot k) : w.heap.size ≤ k ∧ k < W.heap.size := h.sep.lt i x hi k hk
theorem PW.setBlk (h : PW w W ps) (i : Nat) {b t : Nat} {cs : Array Value} (hi : ps[i]? = some (pBlk b t cs)) (o : Nat) (x : Value) : PW w (W.setCell ⟨b, o, none⟩ x) (ps.set i (pBlk b t (cs.setIfInBounds o x))) :=
  h.hi ((Below.refl _ _).setCell (p := ⟨b, o, none⟩) (h.ge i hi (k := b) rfl).1 _) (h.sep.setBlk h.size i hi o x)
theorem PW.setInt (h : PW w W ps) (i : Nat) {b n : Nat} {f : Nat → Int} (hi : ps[i]? = some (pInt b n f)) {o : Nat} (ho : o < n) (x : Int) : PW w (W.setCell ⟨b, o, none⟩ (.int .i64 x)) (ps.set i (pInt b n (fun j => if j = o then x else f j))) :=
  h.hi ((Below.refl _ _).setCell (p := ⟨b, o, none⟩) (h.ge i hi (k := b) rfl).1 _) (h.sep.setInt h.size i hi ho x)
theorem PW.newBlk (h : PW w W ps) (t : Nat) (cs : Array Value) : PW w (W.alloc (.cells cs t)) (ps ++ [pBlk W.heap.size t cs]) :=
  h.hi ((Below.refl _ _).alloc h.size _) (h.sep.newBlk h.size t cs)
theorem PW.newRow (h : PW w W ps) (B e sz : Nat) : PW w W (ps ++ [pRow B e sz 0 (.slice none 0 0) []]) :=
  h.hi (Below.refl _ _) (h.sep.newRow h.size B e sz)
theorem PW.push (h : PW w W ps) (x' : Part) (hb : Below W.heap.size W W') (ht : x'.told W') (hx : ∀ k, x'.foot k → W.heap.size ≤ k ∧ k < W'.heap.size) : PW w W' (ps ++ [x']) :=
  (h.below hb).hi (Below.refl _ _) (h.sep.push x' hb h.size ht hx)
theorem PW.newInts (h : PW w W ps) (m : Nat) : PW w (W.alloc (.cells (intsV (List.replicate m 0)).toArray 3)) (ps ++ [pInt W.heap.size m (fun _ => 0)]) :=
  h.push _ ((Below.refl _ _).alloc (Nat.le_refl _) _) (zeros_blk (heap_alloc_new _ _)) (fun k hk => by
    obtain rfl : k = W.heap.size := hk
    simp)
theorem PW.part (h : PW w W ps) (i : Nat) {x : Part} (hi : ps[i]? = some x) (x' : Part) (ht : x'.told W) (hx : ∀ k, x'.foot k → x.foot k) : PW w W (ps.set i x') :=
  h.hi (Below.refl _ _) (h.sep.set i hi x' (Nat.le_refl _) h.size (fun _ _ _ => rfl) ht (fun k hk => .inl (hx k hk)))
theorem PW.left (h : PW w W (ps ++ qs)) : PW w W ps := h.hi (Below.refl _ _) h.sep.left
theorem Sep.both {B : Nat} (h : Sep W B ps) (hb : Below W.heap.size W W') (hB : B ≤ W.heap.size) (k : Sep W' W.heap.size qs) : Sep W' B (ps ++ qs) := by
  have hs := hb.size
  have key : ∀ (j : Nat) (y : Part), (ps ++ qs)[j]? = some y → (j < ps.length ∧ ps[j]? = some y) ∨ (ps.length ≤ j ∧ qs[j - ps.length]? = some y) := fun j y hj => by
    by_cases e : j < ps.length
    · rw [List.getElem?_append_left e] at hj; exact .inl ⟨e, hj⟩
    · rw [List.getElem?_append_right (by omega)] at hj; exact .inr ⟨by omega, hj⟩
  refine ⟨fun j y hj => ?_, fun j y hj i hi => ?_, fun a b y z ha hb' i hy hz => ?_⟩
  · rcases key j y hj with ⟨_, hj⟩ | ⟨_, hj⟩
    · exact (h.below hb).told j y hj
    · exact k.told _ y hj
  · rcases key j y hj with ⟨_, hj⟩ | ⟨_, hj⟩
    · have := h.lt j y hj i hi; omega
    · have := k.lt _ y hj i hi; omega
  · rcases key a y ha with ⟨_, ha2⟩ | ⟨ea, ha2⟩ <;> rcases key b z hb' with ⟨_, hb2⟩ | ⟨eb, hb2⟩
    · exact h.apart a b y z ha2 hb2 i hy hz
    · have a1 := h.lt a y ha2 i hy; have a2 := k.lt _ z hb2 i hz; omega
    · have a1 := k.lt _ y ha2 i hy; have a2 := h.lt b z hb2 i hz; omega
    · have := k.apart _ _ y z ha2 hb2 i hy hz; omega
/-- What a call made, apart from each other. -/
theorem PW.both (h : PW w W ps) (hb : Below W.heap.size W W') (k : Sep W' W.heap.size qs) : PW w W' (ps ++ qs) := (h.below hb).hi (Below.refl _ _) (h.sep.both hb h.size k)
/-- Some of the parts, in another order. -/
theorem PW.pick (h : PW w W ps) (is : List Nat) (hn : is.Nodup) (e : (is.map fun i => (ps[i]?).getD Part.none) = ps') : PW w W ps' := e ▸ h.hi (Below.refl _ _) (h.sep.pick is hn)
theorem PW.chute (h : PW w W ps) (i : Nat) {p : Nat} {v : Value} {xs : List Int} (hi : ps[i]? = some (pChute p v xs)) (hb : IsBytes w w.heap.size v xs) : ChuteAt W p v xs := by
  obtain ⟨u, s, h1, h2⟩ := h.at i hi
  exact ⟨⟨u, s, h1, h2⟩, (hb.1.below h.low (Nat.le_refl _)).mono (h.ge i hi (k := p) rfl).1, hb.2⟩
theorem PW.turn (h : PW w W ps) (i : Nat) {p : Nat} {v : Value} {xs : List Int} (hi : ps[i]? = some (pChute p v xs)) (hc : ChuteAt W' p v xs) (ht : Turned p W W') : PW w W' ps := by
  have hp := h.ge i hi (k := p) rfl
  have e : ps.set i (pChute p v xs) = ps := by
    obtain ⟨hl, he⟩ := List.getElem?_eq_some_iff.1 hi
    rw [← he, List.set_getElem_self]
  have := h.setPart i hi (pChute p v xs) (ht.below h.size hp.1) (fun k _ hk hne => ht.block k hk hne) hc.blk (fun k hk => .inl hk)
  rw [e] at this
  exact this
/-- A chute filled. -/
theorem PW.fill (h : PW w W ps) {v : Value} {xs : List Int} (hc : ChuteAt W' W.heap.size v xs) (hb : Below W.heap.size W W') : PW w W' (ps ++ [pChute W.heap.size v xs]) :=
  h.push _ hb hc.blk (fun k hk => by
    obtain rfl : k = W.heap.size := hk
    exact ⟨Nat.le_refl _, hc.lt⟩)
/-- What a call made that turned a chute. -/
theorem PW.made (h : PW w W ps) (i : Nat) {p : Nat} {v : Value} {xs : List Int} (hi : ps[i]? = some (pChute p v xs)) (hc : ChuteAt W' p v xs) (ht : Turned p W W') (k : Sep W' W.heap.size qs) : PW w W' (ps ++ qs) := by
  have h1 := h.turn i hi hc ht
  have hp := (h.ge i hi (k := p) rfl).2
  refine h1.hi (Below.refl _ _) ?_
  have key : ∀ (j : Nat) (y : Part), (ps ++ qs)[j]? = some y → (j < ps.length ∧ ps[j]? = some y) ∨ (ps.length ≤ j ∧ qs[j - ps.length]? = some y) := fun j y hj => by
    by_cases e : j < ps.length
    · rw [List.getElem?_append_left e] at hj; exact .inl ⟨e, hj⟩
    · rw [List.getElem?_append_right (by omega)] at hj; exact .inr ⟨by omega, hj⟩
  have hs := h.size
  refine ⟨fun j y hj => ?_, fun j y hj i hi => ?_, fun a b y z ha hb' i hy hz => ?_⟩
  · rcases key j y hj with ⟨_, hj⟩ | ⟨_, hj⟩
    · exact h1.sep.told j y hj
    · exact k.told _ y hj
  · rcases key j y hj with ⟨_, hj⟩ | ⟨_, hj⟩
    · exact h1.sep.lt j y hj i hi
    · have := k.lt _ y hj i hi; omega
  · rcases key a y ha with ⟨_, ha2⟩ | ⟨ea, ha2⟩ <;> rcases key b z hb' with ⟨_, hb2⟩ | ⟨eb, hb2⟩
    · exact h.sep.apart a b y z ha2 hb2 i hy hz
    · have a1 := h.sep.lt a y ha2 i hy; have a2 := k.lt _ z hb2 i hz; omega
    · have a1 := k.lt _ y ha2 i hy; have a2 := h.sep.lt b z hb2 i hz; omega
    · have := k.apart _ _ y z ha2 hb2 i hy hz; omega
theorem PW.pushOne (h : PW w W ps) (x : Int) : PW w (W.alloc (.cells #[.int .i64 x] 3)) (ps ++ [pRow W.heap.size 3 1 1 (.slice (some ⟨W.heap.size, 0, none⟩) 1 1) (intsV [x])]) :=
  h.push _ ((Below.refl _ _).alloc (Nat.le_refl _) _) ⟨rfl, .inr ⟨W.heap.size, 1, #[.int .i64 x], rfl, Nat.le_refl _, heap_alloc_new _ _, Nat.le_refl _, by unfold maxLen; omega, rfl, rfl⟩⟩ (fun k hk => by
    have hk' : W.heap.size = k := Option.some.inj hk
    subst hk'
    simp)
theorem PW.grown (h : PW w W ps) (i : Nat) {B' e sz n : Nat} {u : Value} {l : List Value} (hi : ps[i]? = some (pRow B' e sz n u l)) {g m cap : Nat} {l' : List Value} (ho : W'.ownsRow B' e sz (.slice (some ⟨g, 0, none⟩) m cap) m l') (hg : W.grownBy W' u.ownBlock) (hor : u.ownBlock = some g ∨ g = W.heap.size) :
    PW w W' (ps.set i (pRow B' e sz m (.slice (some ⟨g, 0, none⟩) m cap) l')) :=
  h.hi (below_grown (Below.refl _ W) hg (fun r hr => (h.ge i hi (k := r) hr).1) h.size) (h.sep.grown h.size i hi ho hg (hor.imp (fun e => e.symm) (fun e => by rw [e]; rfl)))
theorem PW.rowInt (h : PW w W ps) (i : Nat) {B n g c : Nat} {l : List Int} (hi : ps[i]? = some (pRow B 3 1 n (.slice (some ⟨g, 0, none⟩) n c) (intsV l))) (hl : l.length = n) : PW w W (ps.set i (pInt g n (nth l))) :=
  h.part i hi _ (IntBlk.of_owns (h.at i hi) hl (fun _ _ => rfl)) (fun k hk => by
    obtain rfl : k = g := hk
    rfl)
end

theorem PW.step_int {w W : World} {ps : List Part} (h : PW w W ps) (i : Nat) {B n : Nat} {u : Value} (l : List Int) (y : Int) (hi : ps[i]? = some (pRow B 3 1 n u (intsV l))) (hB : B ≤ W.heap.size) (hn : n ≤ 1000)
    {ops : Array Oper} {o : Oper} {a : Act} {Q : Exit → Act → World → Prop} {K : Act → World → Prop} {E : Prop} (hgd : o.guard = none) (s x : Operand) (ho : o.op = .call { callee := .builtin .append, args := #[s, x], argTypes := #[22, 22] }) (hs : a.eval s = u) (gb : Nat) (hx : a.eval x = .slice (some ⟨gb, 0, none⟩) 1 1)
    (hc : ∀ (j : Nat) (z : Value), ([.int .i64 y] : List Value)[j]? = some z → W.cell? ((⟨gb, 0, none⟩ : Addr).add j) = some z)
    (hk : ∀ g cap w', PW w w' (ps.set i (pRow B 3 1 (n + 1) (.slice (some ⟨g, 0, none⟩) (n + 1) cap) (intsV (l ++ [y])))) → Below w.heap.size W w' → W.grownBy w' u.ownBlock → K (a.put o.dst (.slice (some ⟨g, 0, none⟩) (n + 1) cap)) w') :
    if Region.wanted o (yielded ops a.tmps) = true then Oper.wp Try.prog o a W K Q else E := by
  obtain ⟨i0, hif, hz0, hz1, hz2⟩ := info_parts infoInt
  exact step_append_lies W hgd s x 22 ho B 3 i0 (.int .i64 0) 1 8 Try.underlying22 hif hz0 hz1 hz2 rfl (by decide) u n (intsV l) hs (h.at i hi) ⟨gb, 0, none⟩ 1 1 [.int .i64 y] hx rfl hc (fun u hu => by simp at hu; subst hu; rfl) (by omega) (by unfold maxLen; omega) (by omega) hB W.heap.size rfl (fun g cap w' ho hg hor _ =>
    hk g cap w' (h.grown i hi (by rw [intsV_snoc]; exact ho) hg hor) (below_grown (Below.refl _ W) hg (fun r hr => (h.ge i hi (k := r) hr).1) h.size) hg)

theorem PW.list_int {w W : World} {ps : List Part} (h : PW w W ps) (i : Nat) {B n : Nat} {u : Value} (l : List Int) (y : Int) (hi : ps[i]? = some (pRow B 3 1 n u (intsV l))) (hB : B ≤ W.heap.size) (hn : n ≤ 1000)
    {ops : Array Oper} {o : Oper} {a : Act} {Q : Exit → Act → World → Prop} {rest : List Oper} (hgd : o.guard = none) (s x : Operand) (ho : o.op = .call { callee := .builtin .append, args := #[s, x], argTypes := #[22, 22] }) (hs : a.eval s = u) (gb : Nat) (hx : a.eval x = .slice (some ⟨gb, 0, none⟩) 1 1)
    (hc : ∀ (j : Nat) (z : Value), ([.int .i64 y] : List Value)[j]? = some z → W.cell? ((⟨gb, 0, none⟩ : Addr).add j) = some z)
    (hk : ∀ g cap w', PW w w' (ps.set i (pRow B 3 1 (n + 1) (.slice (some ⟨g, 0, none⟩) (n + 1) cap) (intsV (l ++ [y])))) → Below w.heap.size W w' → W.grownBy w' u.ownBlock → wpList Try.prog ops Q rest (a.put o.dst (.slice (some ⟨g, 0, none⟩) (n + 1) cap)) w') :
    wpList Try.prog ops Q (o :: rest) a W := by
  obtain ⟨i0, hif, hz0, hz1, hz2⟩ := info_parts infoInt
  exact wpList_append_lies W hgd s x 22 ho B 3 i0 (.int .i64 0) 1 8 Try.underlying22 hif hz0 hz1 hz2 rfl (by decide) u n (intsV l) hs (h.at i hi) ⟨gb, 0, none⟩ 1 1 [.int .i64 y] hx rfl hc (fun u hu => by simp at hu; subst hu; rfl) (by omega) (by unfold maxLen; omega) (by omega) hB W.heap.size rfl (fun g cap w' ho hg hor _ =>
    hk g cap w' (h.grown i hi (by rw [intsV_snoc]; exact ho) hg hor) (below_grown (Below.refl _ W) hg (fun r hr => (h.ge i hi (k := r) hr).1) h.size) hg)

theorem PW.step_pair {w W : World} {ps : List Part} (h : PW w W ps) (i : Nat) {B n : Nat} {u : Value} (l : List (Int × Int)) (y : Int × Int) (hi : ps[i]? = some (pRow B 63 2 n u (pairsV l))) (hB : B ≤ W.heap.size) (hn : n ≤ 1000)
    {ops : Array Oper} {o : Oper} {a : Act} {Q : Exit → Act → World → Prop} {K : Act → World → Prop} {E : Prop} (hgd : o.guard = none) (s x : Operand) (ho : o.op = .call { callee := .builtin .append, args := #[s, x], argTypes := #[23, 23] }) (hs : a.eval s = u) (gb : Nat) (hx : a.eval x = .slice (some ⟨gb, 0, none⟩) 1 1)
    (hc : ∀ (j : Nat) (z : Value), ([.int .i64 y.1, .int .i64 y.2] : List Value)[j]? = some z → W.cell? ((⟨gb, 0, none⟩ : Addr).add j) = some z)
    (hk : ∀ g cap w', PW w w' (ps.set i (pRow B 63 2 (n + 1) (.slice (some ⟨g, 0, none⟩) (n + 1) cap) (pairsV (l ++ [y])))) → Below w.heap.size W w' → W.grownBy w' u.ownBlock → K (a.put o.dst (.slice (some ⟨g, 0, none⟩) (n + 1) cap)) w') :
    if Region.wanted o (yielded ops a.tmps) = true then Oper.wp Try.prog o a W K Q else E := by
  obtain ⟨i0, hif, hz0, hz1, hz2⟩ := info_parts infoRun
  exact step_append_lies W hgd s x 23 ho B 63 i0 (.agg #[.int .i64 0, .int .i64 0]) 2 16 Try.underlying23 hif hz0 hz1 hz2 rfl (by decide) u n (pairsV l) hs (h.at i hi) ⟨gb, 0, none⟩ 1 1 [.int .i64 y.1, .int .i64 y.2] hx rfl hc (fun u hu => by simp at hu; rcases hu with rfl | rfl <;> rfl) (by omega) (by unfold maxLen; omega) (by omega) hB W.heap.size rfl (fun g cap w' ho hg hor _ =>
    hk g cap w' (h.grown i hi (by rw [pairsV_snoc]; exact ho) hg hor) (below_grown (Below.refl _ W) hg (fun r hr => (h.ge i hi (k := r) hr).1) h.size) hg)

theorem PW.list_pair {w W : World} {ps : List Part} (h : PW w W ps) (i : Nat) {B n : Nat} {u : Value} (l : List (Int × Int)) (y : Int × Int) (hi : ps[i]? = some (pRow B 63 2 n u (pairsV l))) (hB : B ≤ W.heap.size) (hn : n ≤ 1000)
    {ops : Array Oper} {o : Oper} {a : Act} {Q : Exit → Act → World → Prop} {rest : List Oper} (hgd : o.guard = none) (s x : Operand) (ho : o.op = .call { callee := .builtin .append, args := #[s, x], argTypes := #[23, 23] }) (hs : a.eval s = u) (gb : Nat) (hx : a.eval x = .slice (some ⟨gb, 0, none⟩) 1 1)
    (hc : ∀ (j : Nat) (z : Value), ([.int .i64 y.1, .int .i64 y.2] : List Value)[j]? = some z → W.cell? ((⟨gb, 0, none⟩ : Addr).add j) = some z)
    (hk : ∀ g cap w', PW w w' (ps.set i (pRow B 63 2 (n + 1) (.slice (some ⟨g, 0, none⟩) (n + 1) cap) (pairsV (l ++ [y])))) → Below w.heap.size W w' → W.grownBy w' u.ownBlock → wpList Try.prog ops Q rest (a.put o.dst (.slice (some ⟨g, 0, none⟩) (n + 1) cap)) w') :
    wpList Try.prog ops Q (o :: rest) a W := by
  obtain ⟨i0, hif, hz0, hz1, hz2⟩ := info_parts infoRun
  exact wpList_append_lies W hgd s x 23 ho B 63 i0 (.agg #[.int .i64 0, .int .i64 0]) 2 16 Try.underlying23 hif hz0 hz1 hz2 rfl (by decide) u n (pairsV l) hs (h.at i hi) ⟨gb, 0, none⟩ 1 1 [.int .i64 y.1, .int .i64 y.2] hx rfl hc (fun u hu => by simp at hu; rcases hu with rfl | rfl <;> rfl) (by omega) (by unfold maxLen; omega) (by omega) hB W.heap.size rfl (fun g cap w' ho hg hor _ =>
    hk g cap w' (h.grown i hi (by rw [pairsV_snoc]; exact ho) hg hor) (below_grown (Below.refl _ W) hg (fun r hr => (h.ge i hi (k := r) hr).1) h.size) hg)

theorem PW.step_row {w W : World} {ps : List Part} (h : PW w W ps) (i : Nat) {B n : Nat} {u : Value} (l : List Value) (y : Value) (hi : ps[i]? = some (pRow B 22 1 n u l)) (hB : B ≤ W.heap.size) (hn : n ≤ 1000) (hone : y.oneCell' = true)
    {ops : Array Oper} {o : Oper} {a : Act} {Q : Exit → Act → World → Prop} {K : Act → World → Prop} {E : Prop} (hgd : o.guard = none) (s x : Operand) (ho : o.op = .call { callee := .builtin .append, args := #[s, x], argTypes := #[24, 24] }) (hs : a.eval s = u) (gb : Nat) (hx : a.eval x = .slice (some ⟨gb, 0, none⟩) 1 1)
    (hc : ∀ (j : Nat) (z : Value), ([y] : List Value)[j]? = some z → W.cell? ((⟨gb, 0, none⟩ : Addr).add j) = some z)
    (hk : ∀ g cap w', PW w w' (ps.set i (pRow B 22 1 (n + 1) (.slice (some ⟨g, 0, none⟩) (n + 1) cap) (l ++ [y]))) → Below w.heap.size W w' → W.grownBy w' u.ownBlock → K (a.put o.dst (.slice (some ⟨g, 0, none⟩) (n + 1) cap)) w') :
    if Region.wanted o (yielded ops a.tmps) = true then Oper.wp Try.prog o a W K Q else E := by
  obtain ⟨i0, hif, hz0, hz1, hz2⟩ := info_parts infoRow
  exact step_append_lies W hgd s x 24 ho B 22 i0 (.slice none 0 0) 1 24 Try.underlying24 hif hz0 hz1 hz2 rfl (by decide) u n l hs (h.at i hi) ⟨gb, 0, none⟩ 1 1 [y] hx rfl hc (fun u hu => by simp at hu; subst hu; exact hone) (by omega) (by unfold maxLen; omega) (by omega) hB W.heap.size rfl (fun g cap w' ho hg hor _ =>
    hk g cap w' (h.grown i hi ho hg hor) (below_grown (Below.refl _ W) hg (fun r hr => (h.ge i hi (k := r) hr).1) h.size) hg)

theorem PW.list_row {w W : World} {ps : List Part} (h : PW w W ps) (i : Nat) {B n : Nat} {u : Value} (l : List Value) (y : Value) (hi : ps[i]? = some (pRow B 22 1 n u l)) (hB : B ≤ W.heap.size) (hn : n ≤ 1000) (hone : y.oneCell' = true)
    {ops : Array Oper} {o : Oper} {a : Act} {Q : Exit → Act → World → Prop} {rest : List Oper} (hgd : o.guard = none) (s x : Operand) (ho : o.op = .call { callee := .builtin .append, args := #[s, x], argTypes := #[24, 24] }) (hs : a.eval s = u) (gb : Nat) (hx : a.eval x = .slice (some ⟨gb, 0, none⟩) 1 1)
    (hc : ∀ (j : Nat) (z : Value), ([y] : List Value)[j]? = some z → W.cell? ((⟨gb, 0, none⟩ : Addr).add j) = some z)
    (hk : ∀ g cap w', PW w w' (ps.set i (pRow B 22 1 (n + 1) (.slice (some ⟨g, 0, none⟩) (n + 1) cap) (l ++ [y]))) → Below w.heap.size W w' → W.grownBy w' u.ownBlock → wpList Try.prog ops Q rest (a.put o.dst (.slice (some ⟨g, 0, none⟩) (n + 1) cap)) w') :
    wpList Try.prog ops Q (o :: rest) a W := by
  obtain ⟨i0, hif, hz0, hz1, hz2⟩ := info_parts infoRow
  exact wpList_append_lies W hgd s x 24 ho B 22 i0 (.slice none 0 0) 1 24 Try.underlying24 hif hz0 hz1 hz2 rfl (by decide) u n l hs (h.at i hi) ⟨gb, 0, none⟩ 1 1 [y] hx rfl hc (fun u hu => by simp at hu; subst hu; exact hone) (by omega) (by unfold maxLen; omega) (by omega) hB W.heap.size rfl (fun g cap w' ho hg hor _ =>
    hk g cap w' (h.grown i hi ho hg hor) (below_grown (Below.refl _ W) hg (fun r hr => (h.ge i hi (k := r) hr).1) h.size) hg)

end Go.Proofs.Ytnhifinfjfpoiaa

namespace Go.Proofs.Ytnhifinfjfpoiaa
open Go.RowKit
set_option linter.unusedVariables false

/-- A colony that Made gave, in its box, and a chute. -/
def madeCol (b5 p2 : Nat) (v2 : Value) (xs2 : List Int) (B : Nat) (r t u nn : Value) (n : Nat) (rooms traps : List Int) (rs : List (Int × Int)) (nb : Nat → Nat) (N : List (List Int)) : List Part :=
  [pBlk b5 26 #[r, t, u, nn], pChute p2 v2 xs2, pRow B 3 1 n r (intsV rooms), pRow B 3 1 n t (intsV traps), pRow B 63 2 rs.length u (pairsV rs), pRows B n nn nb N]
theorem made_read {W : World} {B n : Nat} {r t u nn : Value} {rooms traps : List Int} {rs : List (Int × Int)} {nb : Nat → Nat} {N : List (List Int)} (hck : checkC ⟨rooms, traps, rs, N⟩ = 0) (hl : rooms.length = n)
    (p2 : (pRow B 3 1 n r (intsV rooms)).told W) (p3 : (pRow B 3 1 n t (intsV traps)).told W) (p4 : (pRow B 63 2 rs.length u (pairsV rs)).told W) (p5 : (pRows B n nn nb N).told W) : ColAt W W.heap.size r t u nn ⟨rooms, traps, rs, N⟩ := by
  subst hl
  have k := okCol_of hck
  have hn : rooms.length ≤ 6 := k.houses.2
  have ht : traps.length = rooms.length := k.traps
  refine ⟨?_, ?_, ?_, ?_⟩
  · show IsInts W W.heap.size r rooms
    refine nums_of_owns p2 (fun x hx => ?_) (by omega)
    obtain ⟨i, hi, rfl⟩ := List.mem_iff_getElem.1 hx
    have := k.room i hi
    have e : nth (⟨rooms, traps, rs, N⟩ : Col).rooms i = rooms[i] := nth_eq hi
    rw [e] at this
    unfold I64; omega
  · show IsInts W W.heap.size t traps
    have p3' : W.ownsRow B 3 1 t traps.length (intsV traps) := by rw [ht]; exact p3
    refine nums_of_owns p3' (fun x hx => ?_) (by omega)
    obtain ⟨i, hi, rfl⟩ := List.mem_iff_getElem.1 hx
    have := k.trap i (by show i < rooms.length; omega)
    have e : nth (⟨rooms, traps, rs, N⟩ : Col).traps i = traps[i] := nth_eq hi
    rw [e] at this
    unfold I64; omega
  · show IsPairs W W.heap.size u rs
    refine pairs_of_owns p4 (fun q hq => ?_) (by have := k.runs; have e : (⟨rooms, traps, rs, N⟩ : Col).runs.length = rs.length := rfl; omega)
    obtain ⟨i, hi, rfl⟩ := List.mem_iff_getElem.1 hq
    have := k.run i hi
    have e : nthP (⟨rooms, traps, rs, N⟩ : Col).runs i = rs[i] := nthP_eq hi
    have e2 : (⟨rooms, traps, rs, N⟩ : Col).rooms.length = rooms.length := rfl
    rw [e, e2] at this
    unfold I64; omega
  · show IsRows W W.heap.size nn N
    refine rows_of_part p5 (by omega) (by have := k.nights; have e : (⟨rooms, traps, rs, N⟩ : Col).nights.length = N.length := rfl; omega) (fun i j hi hj => ?_)
    have a := k.night i j hi hj
    have b := k.trap j hj
    have e : nth (nthR (⟨rooms, traps, rs, N⟩ : Col).nights i) j = nth (nthR N i) j := rfl
    rw [e] at a
    unfold I64; omega
/-- The parts that a law needs behind Made. -/
def GoneBegin (w : World) (ns : Nat) (b5 p2 : Nat) (v2 : Value) (xs2 : List Int) (W : World) : Prop :=
  ∃ n B r0 qr t0 qt u0 qu n0 qn rooms traps rs nb N, 0 < n ∧ rooms.length = n ∧ N.length ≤ ns ∧ checkC ⟨rooms, traps, rs, N⟩ = 0 ∧ PW w W (madeCol b5 p2 v2 xs2 B (.slice r0 n qr) (.slice t0 n qt) (.slice u0 rs.length qu) (.slice n0 N.length qn) n rooms traps rs nb N)
end Go.Proofs.Ytnhifinfjfpoiaa

namespace Go.Proofs.Ytnhifinfjfpoiaa
open Go.RowKit
set_option linter.unusedVariables false
set_option linter.unusedSimpArgs false

def RowsPost (n : Nat) (rows : List (List Int)) (w : World) (e : Ending) (w' : World) : Prop :=
  ∃ v nb, e = .returned v ∧ Sep w' w.heap.size [pRowsI w.heap.size n v nb rows] ∧ Below w.heap.size w w'
theorem rows_done {w wr : World} {n : Nat} {rows : List (List Int)} {o : Value} (hrow : ∀ j, j < rows.length → (nthR rows j).length = n) (h : CopyInv w n (fun j => nth (nthR rows j)) rows.length o wr) : RowsPost n rows w (.returned o) wr := by
  obtain ⟨nb, cb, h1, h2, h3, h4⟩ := h
  refine ⟨o, nb, rfl, ⟨fun i x hi => ?_, fun i x hi k hk => ?_, fun i j x y hi hj k hx hy => ?_⟩, h4⟩
  · cases i with
    | zero =>
      simp only [List.getElem?_cons_zero, Option.some.injEq] at hi
      subst hi
      refine ⟨⟨⟨_, h1, fun j hj => ⟨cb j, (h2 j hj).1, by simp [rowsV, hj]⟩⟩, fun j hj => ⟨hrow j hj, (h2 j hj).2.2⟩⟩, h3⟩
    | succ i => simp at hi
  · cases i with
    | zero =>
      simp only [List.getElem?_cons_zero, Option.some.injEq] at hi
      subst hi
      rcases hk with hk | ⟨j, hj, rfl⟩
      · exact h1.lt k hk
      · exact ⟨(h2 j hj).2.1, (h2 j hj).2.2.lt⟩
    | succ i => simp at hi
  · cases i with
    | zero => cases j with
      | zero => rfl
      | succ j => simp at hj
    | succ i => simp at hi
set_option maxRecDepth 100000 in
set_option maxHeartbeats 2000000 in
theorem copyRowsN_any (rows : List (List Int)) (n : Nat) (v : Value) (w : World) (h : IsRows w w.heap.size v rows) (h0 : 0 < n) (hn : n ≤ 100) (hk : rows.length ≤ 100) (hrow : ∀ j, j < rows.length → (nthR rows j).length = n) :
    Calls Try.prog 65 #[v] w (RowsPost n rows w) := by
  obtain ⟨i0, hi, hz0, hz1, hz2⟩ := info_parts infoRow
  have H := Lib.hid h
  have HR0 := Lib.hid hrow
  obtain ⟨a, q, rfl, _⟩ := h.open
  clear h hrow
  go_enter Try.func65, Try.ntmps65
  go_wp2_with fail
  go_loopw [3, 8] (fun o i wr => ∃ k : Nat, k ≤ rows.length ∧ i = .int .i64 k ∧ Hid (CopyInv w n (fun j => nth (nthR rows j)) k o wr)) (fun _ i _ => rows.length - (intOf i).toNat)
  case atStart => exact ⟨0, Nat.zero_le _, rfl, fun _ => 0, fun _ => 0, World.ownsRow_nil _ _ _ _, fun j hj => (by omega), fun i j hi => (by omega), Below.refl _ _⟩
  case round =>
    obtain ⟨k, hk, rfl, HR⟩ := hrel
    by_cases hlt : k < rows.length
    · have hki : (k : Int) < rows.length := by omega
      obtain ⟨nb0, cb0, hown0, hr2, hr3, hbw⟩ := HR.out
      have HRR := Lib.hid (And.intro hr2 (And.intro hr3 hbw))
      have hM' := H.out.below hbw (Nat.le_refl _)
      obtain ⟨a', q', e', _, _, hcell⟩ := hM'.open
      cases e'
      obtain ⟨b, off, u, rfl, hb, m1, hu⟩ := hcell k hlt
      obtain ⟨au, qu, rfl, _⟩ := hu.open
      have hlr := HR0.out k hlt
      have HCP := Lib.hid (copyI_any (nthR rows k) _ wr (hu.mono hbw.size) (by omega))
      obtain ⟨a, cap, rfl⟩ := owns_slice hown0
      have HOW := Lib.hid hown0
      have hsz := hbw.size
      have HLR := Lib.hid hlr
      rw [hlr] at m1 HCP
      clear hbw hM' hown0 hr2 hr3 hcell hu hlr
      go_wp2_with fail
      refine HCP.out.mono ?_
      rintro e w1 ⟨v1, rfl, ho1, hb1⟩
      obtain ⟨gn, cn, rfl, hgn, _⟩ := ho1.form h0
      have hcn1 : n ≤ cn := owns_cap ho1
      have hI : IntBlk w1 gn n (nth (nthR rows k)) := IntBlk.of_owns ho1 HLR.out (fun _ _ => rfl)
      have HO := Lib.hid ((owns_below HOW.out hb1).alloc (.cells #[.slice (some ⟨gn, 0, none⟩) n cn] 22))
      have hsz1 := hb1.size
      have HX := Lib.hid (And.intro hI (And.intro hgn hb1))
      clear hI hgn hb1 HCP m1 ho1
      go_wp2_with (at_builtin; refine wpList_append_own _ rfl _ _ 24 rfl w.heap.size 22 i0 (.slice none 0 0) 1 24 Try.underlying24 hi hz0 hz1 hz2 rfl (by decide) _ _ _ rfl HO.out ⟨w1.heap.size, 0, none⟩ 1 1 [.slice (some ⟨gn, 0, none⟩) n cn] rfl rfl (cell_one_new _ _ _) (fun y hy => by simp at hy; subst hy; rfl) (by unfold maxLen; omega) (by omega) (by simp; omega) ?_; intro v' w2 hown' hgrow _; have HG := Lib.hid (And.intro hown' hgrow); clear hown' hgrow)
      have HN : Hid (CopyInv w n (fun j => nth (nthR rows j)) (k + 1) v' w2) := copyInv_step HOW.out HRR.out.1 HRR.out.2.1 HRR.out.2.2 HX.out.2.2 hcn1 HX.out.1 HX.out.2.1 HG.out.1 HG.out.2
      clear HO HG HX
      go_wp2_with fail
      go_roundw
      case rel => exact ⟨k + 1, by omega, by go_num, HN.out⟩
      case measure => simp [intOf]; omega
    · obtain rfl : k = rows.length := by omega
      go_wp2_with fail
      go_ret
      exact rows_done HR0.out HR.out
/-- A colony's parts, apart from each other, all in new memory. -/
def ownParts (b1 b2 b3 b4 n : Nat) (r t u nv : Value) (nb : Nat → Nat) (c : Col) : List Part :=
  [pRow b1 3 1 n r (intsV c.rooms), pRow b2 3 1 n t (intsV c.traps), pRow b3 63 2 c.runs.length u (pairsV c.runs), pRowsI b4 n nv nb c.nights]
def OwnPost (n : Nat) (c : Col) (w : World) (e : Ending) (w' : World) : Prop :=
  ∃ r t u nv b1 b2 b3 b4 nb, e = .returned (.agg #[r, t, u, nv]) ∧ b1 ≤ w'.heap.size ∧ b2 ≤ w'.heap.size ∧ b3 ≤ w'.heap.size ∧ b4 ≤ w'.heap.size ∧ Sep w' w.heap.size (ownParts b1 b2 b3 b4 n r t u nv nb c) ∧ Below w.heap.size w w'
structure OwnOk (n : Nat) (c : Col) : Prop where
  pos : 0 < n
  rooms : c.rooms.length = n
  traps : c.traps.length = n
  runs : c.runs.length ≤ 100
  nights : c.nights.length ≤ 100
  few : n ≤ 100
  row : ∀ j, j < c.nights.length → (nthR c.nights j).length = n
def BoxCol (bx : Nat) (a b c d : Value) (W : World) : Prop := W.cell? ⟨bx, 0, none⟩ = some a ∧ W.cell? ⟨bx, 1, none⟩ = some b ∧ W.cell? ⟨bx, 2, none⟩ = some c ∧ W.cell? ⟨bx, 3, none⟩ = some d
theorem boxCol_of {bx t : Nat} {a b c d : Value} {W : World} (h : (pBlk bx t #[a, b, c, d]).told W) : BoxCol bx a b c d W := four_at h

set_option maxRecDepth 100000 in
set_option maxHeartbeats 4000000 in
theorem ownSep_any (n : Nat) (c : Col) (r t u nv : Value) (w : World) (hc : ColAt w w.heap.size r t u nv c) (ok : OwnOk n c) :
    Calls Try.prog 18 #[.agg #[r, t, u, nv]] w (OwnPost n c w) := by
  obtain ⟨hr, htr, hu, hn⟩ := hc
  have HALL := Lib.hid (And.intro hr (And.intro htr (And.intro hu hn)))
  obtain ⟨ar, cr, rfl, _⟩ := hr.open
  obtain ⟨at_, ct, rfl, _⟩ := htr.open
  obtain ⟨au, cu, rfl, _⟩ := hu.open
  obtain ⟨an, cn, rfl, _⟩ := hn.open
  have OK := Lib.hid ok
  have hn0 := ok.pos
  have hn1 := ok.few
  have HP := Lib.hid (((PW.start w).newBlk 26 #[.slice ar c.rooms.length cr, .slice at_ c.traps.length ct, .slice au c.runs.length cu, .slice an c.nights.length cn]).newBlk 26 #[.slice none 0 0, .slice none 0 0, .slice none 0 0, .slice none 0 0])
  clear hr htr hu hn ok
  go_enter Try.func18, Try.ntmps18
  go_upto_region 1 with (fail)
  obtain ⟨W0, hW0⟩ : ∃ W0, ((w.alloc (.cells #[.slice ar c.rooms.length cr, .slice at_ c.traps.length ct, .slice au c.runs.length cu, .slice an c.nights.length cn] 26)).alloc (.cells #[.slice none 0 0, .slice none 0 0, .slice none 0 0, .slice none 0 0] 26)) = W0 := ⟨_, rfl⟩
  obtain ⟨b2, hb2⟩ : ∃ b2, (w.alloc (.cells #[.slice ar c.rooms.length cr, .slice at_ c.traps.length ct, .slice au c.runs.length cu, .slice an c.nights.length cn] 26)).heap.size = b2 := ⟨_, rfl⟩
  have hb2' : w.heap.size + 1 = b2 := by rw [← hb2]; simp
  rw [hW0, hb2] at HP
  rw [hW0, hb2']
  clear hW0 hb2 hb2'
  have HD := Lib.hid HP.out.drew
  have hC : BoxCol w.heap.size (.slice ar c.rooms.length cr) (.slice at_ c.traps.length ct) (.slice au c.runs.length cu) (.slice an c.nights.length cn) W0.drew := boxCol_of (HD.out.at 0 rfl)
  refine wp_region_noPanic ?_
  refine anyL_start (S := Till [13] (BoxCol w.heap.size (.slice ar c.rooms.length cr) (.slice at_ c.traps.length ct) (.slice au c.runs.length cu) (.slice an c.nights.length cn))) (by kernel_rfl) (fun _ => hC) (fun hT => ?_)
  refine takeL0 (i := 0) (d := 3) (v := ?_) rfl rfl (by kernel_rfl) (by kernel_rfl) (by kernel_rfl) (by kernel_rfl) (fun _ _ _ _ _ h => h) (by rfl) ?_ (fun _ => hC) ?_
  rotate_left
  · intro w
    go_simp
    try with_reducible rfl
  (try simp only [Act.put, List.setIfInBounds_toArray, List.set_cons_zero, List.set_cons_succ])
  refine takeL0 (i := 3) (d := 6) (v := ?_) rfl rfl (by kernel_rfl) (by kernel_rfl) (by kernel_rfl) (by kernel_rfl) (fun _ _ _ _ _ h => h) (by rfl) ?_ (fun _ => hC) ?_
  rotate_left
  · intro w
    go_simp
    try with_reducible rfl
  (try simp only [Act.put, List.setIfInBounds_toArray, List.set_cons_zero, List.set_cons_succ])
  refine takeL0 (i := 6) (d := 9) (v := ?_) rfl rfl (by kernel_rfl) (by kernel_rfl) (by kernel_rfl) (by kernel_rfl) (fun _ _ _ _ _ h => h) (by rfl) ?_ (fun _ => hC) ?_
  rotate_left
  · intro w
    go_simp
    try with_reducible rfl
  (try simp only [Act.put, List.setIfInBounds_toArray, List.set_cons_zero, List.set_cons_succ])
  refine takeL0 (i := 9) (d := 12) (v := ?_) rfl rfl (by kernel_rfl) (by kernel_rfl) (by kernel_rfl) (by kernel_rfl) (fun _ _ _ _ _ h => h) (by rfl) ?_ (fun _ => hC) ?_
  rotate_left
  · intro w
    go_simp
    try with_reducible rfl
  (try simp only [Act.put, List.setIfInBounds_toArray, List.set_cons_zero, List.set_cons_succ])
  refine takeL (i := 1) (d := 4) (v := ?_) rfl rfl (by kernel_rfl) (by kernel_rfl) (by kernel_rfl) (by kernel_rfl) (by kernel_rfl) (by kernel_rfl) (fun _ _ _ _ _ h => h) (by rfl) ?_ hC ?_
  rotate_left
  · intro w hSw
    (try dsimp only at hSw)
    obtain ⟨hS0, hS1, hS2, hS3⟩ := hSw
    go_simp
    try with_reducible rfl
  (try simp only [Act.put, List.setIfInBounds_toArray, List.set_cons_zero, List.set_cons_succ])
  refine takeL (i := 4) (d := 7) (v := ?_) rfl rfl (by kernel_rfl) (by kernel_rfl) (by kernel_rfl) (by kernel_rfl) (by kernel_rfl) (by kernel_rfl) (fun _ _ _ _ _ h => h) (by rfl) ?_ hC ?_
  rotate_left
  · intro w hSw
    (try dsimp only at hSw)
    obtain ⟨hS0, hS1, hS2, hS3⟩ := hSw
    go_simp
    try with_reducible rfl
  (try simp only [Act.put, List.setIfInBounds_toArray, List.set_cons_zero, List.set_cons_succ])
  refine takeL (i := 7) (d := 10) (v := ?_) rfl rfl (by kernel_rfl) (by kernel_rfl) (by kernel_rfl) (by kernel_rfl) (by kernel_rfl) (by kernel_rfl) (fun _ _ _ _ _ h => h) (by rfl) ?_ hC ?_
  rotate_left
  · intro w hSw
    (try dsimp only at hSw)
    obtain ⟨hS0, hS1, hS2, hS3⟩ := hSw
    go_simp
    try with_reducible rfl
  (try simp only [Act.put, List.setIfInBounds_toArray, List.set_cons_zero, List.set_cons_succ])
  refine takeL (i := 10) (d := 13) (v := ?_) rfl rfl (by kernel_rfl) (by kernel_rfl) (by kernel_rfl) (by kernel_rfl) (by kernel_rfl) (by kernel_rfl) (fun _ _ _ _ _ h => h) (by rfl) ?_ hC ?_
  rotate_left
  · intro w hSw
    (try dsimp only at hSw)
    obtain ⟨hS0, hS1, hS2, hS3⟩ := hSw
    go_simp
    try with_reducible rfl
  (try simp only [Act.put, List.setIfInBounds_toArray, List.set_cons_zero, List.set_cons_succ])
  refine nextL (i := 2) rfl (by kernel_rfl) (fun K hK => ?_)
  go_simp
  refine (copyI_any c.rooms _ W0.drew ((HALL.out.1.below HD.out.low (Nat.le_refl _)).mono HD.out.size) (by have := OK.out.rooms; omega)).mono ?_
  rintro e w1 ⟨v1, rfl, ho1, hb1'⟩
  have HM1 := Lib.hid (HD.out.push (pRow W0.drew.heap.size 3 1 c.rooms.length v1 (intsV c.rooms)) hb1' ho1 (fun k hk => ho1.lt k hk))
  clear hC
  have hC := boxCol_of (HM1.out.at 0 rfl)
  obtain ⟨a1, q1, rfl⟩ := owns_slice ho1
  have hz1 := hb1'.size
  clear ho1 hb1'
  go_simp
  refine hK.out _ _ (fun _ => hC) ?_
  clear hK K
  (try simp only [Act.put, List.setIfInBounds_toArray, List.set_cons_zero, List.set_cons_succ])
  refine nextL (i := 5) rfl (by kernel_rfl) (fun K hK => ?_)
  go_simp
  refine (copyI_any c.traps _ w1 ((HALL.out.2.1.below HM1.out.low (Nat.le_refl _)).mono HM1.out.size) (by have := OK.out.traps; omega)).mono ?_
  rintro e w2 ⟨v2, rfl, ho2, hb2'⟩
  have HM2 := Lib.hid (HM1.out.push (pRow w1.heap.size 3 1 c.traps.length v2 (intsV c.traps)) hb2' ho2 (fun k hk => ho2.lt k hk))
  clear hC
  have hC := boxCol_of (HM2.out.at 0 rfl)
  obtain ⟨a2, q2, rfl⟩ := owns_slice ho2
  have hz2 := hb2'.size
  clear ho2 hb2'
  go_simp
  refine hK.out _ _ (fun _ => hC) ?_
  clear hK K
  (try simp only [Act.put, List.setIfInBounds_toArray, List.set_cons_zero, List.set_cons_succ])
  refine nextL (i := 8) rfl (by kernel_rfl) (fun K hK => ?_)
  go_simp
  refine (copyR_any c.runs _ w2 ((HALL.out.2.2.1.below HM2.out.low (Nat.le_refl _)).mono HM2.out.size) (by have := OK.out.runs; omega)).mono ?_
  rintro e w3 ⟨v3, rfl, ho3, hb3'⟩
  have HM3 := Lib.hid (HM2.out.push (pRow w2.heap.size 63 2 c.runs.length v3 (pairsV c.runs)) hb3' ho3 (fun k hk => ho3.lt k hk))
  clear hC
  have hC := boxCol_of (HM3.out.at 0 rfl)
  obtain ⟨a3, q3, rfl⟩ := owns_slice ho3
  have hz3 := hb3'.size
  clear ho3 hb3'
  go_simp
  refine hK.out _ _ (fun _ => hC) ?_
  clear hK K
  (try simp only [Act.put, List.setIfInBounds_toArray, List.set_cons_zero, List.set_cons_succ])
  refine nextL (i := 11) rfl (by kernel_rfl) (fun K hK => ?_)
  go_simp
  refine (copyRowsN_any c.nights n _ w3 ((HALL.out.2.2.2.below HM3.out.low (Nat.le_refl _)).mono HM3.out.size) hn0 hn1 OK.out.nights OK.out.row).mono ?_
  rintro e w4 ⟨v4, nb, rfl, hs4, hb4'⟩
  have HM4 := Lib.hid (HM3.out.both hb4' hs4)
  clear hC
  have hC := boxCol_of (HM4.out.at 0 rfl)
  obtain ⟨⟨⟨fs, ho4, _⟩, _⟩, _⟩ : (pRowsI w3.heap.size n v4 nb c.nights).told w4 := hs4.at 0 rfl
  obtain ⟨a4, q4, rfl⟩ := owns_slice ho4
  have hz4 := hb4'.size
  clear ho4 hb4' hs4
  go_simp
  refine hK.out _ _ (fun _ => hC) ?_
  clear hK K
  (try simp only [Act.put, List.setIfInBounds_toArray, List.set_cons_zero, List.set_cons_succ])
  refine takeL0 (i := 12) (d := 15) (v := ?_) rfl rfl (by kernel_rfl) (by kernel_rfl) (by kernel_rfl) (by kernel_rfl) (fun _ _ _ _ _ h => h) (by rfl) ?_ (fun _ => hC) ?_
  rotate_left
  · intro w
    go_simp
    try with_reducible rfl
  (try simp only [Act.put, List.setIfInBounds_toArray, List.set_cons_zero, List.set_cons_succ])
  refine nextL (i := 13) rfl (by kernel_rfl) (fun K hK => ?_)
  have m1 := HM4.out.setBlk 1 rfl 0 (.slice a1 c.rooms.length q1)
  have m2 := m1.setBlk 1 rfl 1 (.slice a2 c.traps.length q2)
  have m3 := m2.setBlk 1 rfl 2 (.slice a3 c.runs.length q3)
  have HM5 := Lib.hid (m3.setBlk 1 rfl 3 (.slice a4 c.nights.length q4))
  have z0 := (four_at (HM4.out.at 1 rfl)).1
  have z1 := (four_at (m1.at 1 rfl)).2.1
  have z2 := (four_at (m2.at 1 rfl)).2.2.1
  have z3 := (four_at (m3.at 1 rfl)).2.2.2
  have f0 := box_free (HM4.out.at 1 rfl) 0
  have f1 := box_free (m1.at 1 rfl) 1
  have f2 := box_free (m2.at 1 rfl) 2
  have f3 := box_free (m3.at 1 rfl) 3
  clear m1 m2 m3 hC
  go_simp
  clear z0 z1 z2 z3 f0 f1 f2 f3
  refine hK.out _ _ (Till.done (by kernel_rfl)) ?_
  clear hK K
  (try simp only [Act.put, List.setIfInBounds_toArray, List.set_cons_zero, List.set_cons_succ])
  refine anyL_done (by kernel_rfl) ?_ _
  refine NoPanic.normal ?_
  go_wp2_with fail
  obtain ⟨W5, hW5⟩ : ∃ W5, ((((w4.setCell ⟨b2, 0, none⟩ (.slice a1 c.rooms.length q1)).setCell ⟨b2, 1, none⟩ (.slice a2 c.traps.length q2)).setCell ⟨b2, 2, none⟩ (.slice a3 c.runs.length q3)).setCell ⟨b2, 3, none⟩ (.slice a4 c.nights.length q4)) = W5 := ⟨_, rfl⟩
  have h5 := HM5.out
  have hz5 : w4.heap.size ≤ W5.heap.size := by rw [← hW5]; simp
  rw [hW5] at h5 ⊢
  obtain ⟨d0, d1, d2, d3⟩ := four_at (h5.at 1 rfl)
  have hsep := h5.sep.pick [2, 3, 4, 5] (by decide)
  have hzd : W0.drew.heap.size ≤ w1.heap.size := hz1
  refine bodyPost_ret (v := .agg #[.slice a1 c.rooms.length q1, .slice a2 c.traps.length q2, .slice a3 c.runs.length q3, .slice a4 c.nights.length q4]) (by simp [results, Try.results18, go_sem, d0, d1, d2, d3]) rfl ⟨_, _, _, _, W0.drew.heap.size, w1.heap.size, w2.heap.size, w3.heap.size, nb, rfl, by omega, by omega, by omega, by omega, ?_, h5.low⟩
  rw [OK.out.rooms, OK.out.traps] at hsep ⊢
  exact hsep
end Go.Proofs.Ytnhifinfjfpoiaa

namespace Go.Proofs.Ytnhifinfjfpoiaa
open Go.RowKit
set_option linter.unusedVariables false

theorem subset_sub_fin : ∀ a b : Fin 64, subsetN a.val b.val = subB a.val (Nat.testBit b.val) := by decide +kernel
theorem subset_sub {a b : Nat} (ha : a < 64) (hb : b < 64) : subsetN a b = subB a b.testBit := subset_sub_fin ⟨a, ha⟩ ⟨b, hb⟩
/-- Is a house told in a list? -/
def toldTo (l : List Int) (h k : Nat) : Bool := anyB (fun i => decide (nth l i = (h : Int))) k
theorem toldTo_succ (l : List Int) (h k : Nat) : toldTo l h (k + 1) = (toldTo l h k || decide (nth l k = (h : Int))) := anyB_succ _ _
theorem setTo_bit {l : List Int} (h0 : ∀ i, i < l.length → 0 ≤ nth l i) (h : Nat) : ∀ k, k ≤ l.length → (setTo l k).testBit h = toldTo l h k
  | 0, _ => by simp [setTo, toldTo, anyB]
  | k + 1, hk => by
    have e : setTo l (k + 1) = orN (setTo l k) (pw (nth l k).toNat) := rfl
    rw [e, orN_bit, setTo_bit h0 h k (by omega), toldTo_succ, pw_bit]
    congr 1
    have := h0 k (by omega)
    rw [Bool.eq_iff_iff]; simp; omega
theorem ratsTo_is {nl : List (Int × Int)} (hf : FrmOk nl) {m : Nat} (hm : m < 64) : ∀ k, k ≤ nl.length → ratsTo nl m k = sumN (fun o => if subB (frm nl o) m.testBit = true then rats nl o else 0) k
  | 0, _ => rfl
  | k + 1, hk => by
    have e : ratsTo nl m (k + 1) = if subsetN (frm nl k) m = true then ratsTo nl m k + (nthP nl k).1 else ratsTo nl m k := rfl
    rw [e, ratsTo_is hf hm k (by omega), sumN_succ, subset_sub (hf k (by omega)).2 hm]
    unfold rats
    split <;> omega
end Go.Proofs.Ytnhifinfjfpoiaa

namespace Go.Proofs.Ytnhifinfjfpoiaa
open Go.RowKit

def InN (n t : Nat) : Prop := ∀ h, t.testBit h = true → h < n
theorem InN.or {n a b : Nat} (h : InN n a) (k : InN n b) : InN n (orN a b) := fun o ho => by
  rw [orN_bit, Bool.or_eq_true] at ho
  exact ho.elim (h o) (k o)
theorem InN.pw {n k : Nat} (h : k < n) : InN n (pw k) := fun o ho => by
  rw [pw_bit] at ho
  have : k = o := by simpa using ho
  omega
theorem tryO_in {rec : Nat → St → Bool × St} {n : Nat} (hr : ∀ o s, InN n s.t → InN n (rec o s).2.t) (k h : Nat) : ∀ (l : List Nat) (s : St), InN n s.t → InN n (tryO rec k h l s).2.t
  | [], s, hs => hs
  | o :: l, s, hs => by
    rw [tryO_cons]
    split
    · split
      · exact hr o s hs
      · exact tryO_in hr k h l _ (hr o s hs)
    · exact tryO_in hr k h l s hs
theorem tryH_in {rec : Nat → St → Bool × St} {n : Nat} (hr : ∀ o s, InN n s.t → InN n (rec o s).2.t) (K k : Nat) : ∀ (l : List Nat) (s : St), (∀ h ∈ l, h < n) → InN n s.t → InN n (tryH rec K k l s).2.t
  | [], s, _, hs => hs
  | h :: l, s, hl, hs => by
    have ht : InN n (s.tick h).t := hs.or (InN.pw (hl h (by simp)))
    have hl' : ∀ x ∈ l, x < n := fun x hx => hl x (by simp [hx])
    rw [tryH_cons]
    split
    · exact tryH_in hr K k l s hl' hs
    · split
      · exact ht
      · split
        · exact tryO_in hr k h _ _ ht
        · exact tryH_in hr K k l _ hl' (tryO_in hr k h _ _ ht)
theorem tryF_in {from_ : Nat → Nat} {K n : Nat} (hf : ∀ k, InN n (from_ k)) : ∀ m o s, InN n s.t → InN n (tryF from_ K m o s).2.t
  | 0, _, _, hs => hs
  | m + 1, o, s, hs => tryH_in (fun o s h => tryF_in hf m o s h) K o _ s (fun h hh => hf o h (List.mem_filter.1 hh).2) hs
theorem zero_in (n : Nat) : InN n 0 := fun h hh => by simp at hh
theorem shRep_in {nl : List (Int × Int)} {n : Nat} (hf : ∀ k, InN n (frm nl k)) (k : Nat) : ∀ m (x : Sh), InN n x.short → InN n (shRep nl k m x).short
  | 0, _, h => h
  | m + 1, x, h => by
    unfold shRep
    split
    · exact shRep_in hf k m _ h
    · show InN n (if x.torn = true then x.short else (putF nl k x.room x.giv).2.t)
      split
      · exact h
      · exact tryF_in hf _ _ _ (zero_in n)
theorem short_in {nl : List (Int × Int)} {rl : List Int} {n : Nat} (hf : ∀ k, InN n (frm nl k)) : InN n (shareF nl rl).short := by
  have key : ∀ (l : List Nat) (x : Sh), InN n x.short → InN n (l.foldl (shNeed nl) x).short := by
    intro l
    induction l with
    | nil => intro x h; exact h
    | cons k l ih => intro x h; exact ih _ (shRep_in hf k _ x h)
  exact key _ _ (zero_in n)
theorem frm_in {c : Col} (ok : OkCol c) (k : Nat) : InN c.rooms.length (frm (needsC c) k) := by
  intro h hb
  unfold frm at hb
  by_cases hk : k < (needsC c).length
  · have hm : nthP (needsC c) k ∈ needsC c := nthP_mem hk
    obtain ⟨n, j, _, _, e⟩ := needsC_mem hm
    rw [e] at hb
    exact org_only ok n j h hb
  · have e : nthP (needsC c) k = (0, 0) := by unfold nthP; rw [List.getD_eq_getElem?_getD, List.getElem?_eq_none (by omega)]; rfl
    rw [e] at hb; simp at hb
theorem fit_short_in {c : Col} (ok : OkCol c) : InN c.rooms.length (fitX c).short := short_in (frm_in ok)
end Go.Proofs.Ytnhifinfjfpoiaa

namespace Go.Proofs.Ytnhifinfjfpoiaa
open Go.RowKit
set_option linter.unusedVariables false
attribute [local go_sem] Oper.semAt_some

/-- The error of Clash, and the houses that it tells. -/
def clashErr (c : Col) : Int := if checkC c = 0 then (if (fitX c).torn = true then 0 else 1) else checkC c
def clashV (c : Col) : List Int := if clashErr c = 0 then natsI (members (fitX c).short) else []

set_option maxRecDepth 100000 in
set_option maxHeartbeats 1000000 in
theorem Clash_any (c : Col) (r t u n : Value) (w : World) (hc : ColAt w w.heap.size r t u n c) (hs64 : checkC c = 0 → (fitX c).torn = true → (fitX c).short < 64) :
    Calls Try.prog 46 #[.agg #[r, t, u, n]] w fun e w' => ∃ v, e = .returned (.tuple #[v, .int .i64 (clashErr c)]) ∧ IsInts w' w'.heap.size v (clashV c) ∧ Below w.heap.size w w' := by
  have hBW := (Below.refl w.heap.size w).alloc (Nat.le_refl _) (.cells #[r, t, u, n] 26)
  have hcA := (hc.below hBW (Nat.le_refl _)).mono (B' := (w.alloc (.cells #[r, t, u, n] 26)).heap.size) (by simp)
  have c0 : (w.alloc (.cells #[r, t, u, n] 26)).cell? ⟨w.heap.size, 0, none⟩ = some r := by simp [go_sem]
  have HR := Lib.hid hcA.1
  have HC := Lib.hid hcA
  obtain ⟨hr, htr, hu, hn⟩ := hc
  obtain ⟨ar, cr, rfl, _⟩ := hr.open
  obtain ⟨at_, ct, rfl, _⟩ := htr.open
  obtain ⟨au, cu, rfl, _⟩ := hu.open
  obtain ⟨an, cn, rfl, _⟩ := hn.open
  have HB := Lib.hid hBW
  have HS64 := Lib.hid hs64
  clear hr htr hu hn hBW hcA hs64
  by_cases q : checkC c = 0
  · have HCK := Lib.hid (opened_ok c _ _ _ _ _ HC.out q)
    have o2 := (okCol_of q).houses.2
    cases ht : (fitX c).torn
    · have e1 : clashErr c = 1 := by unfold clashErr; rw [if_pos q, ht]; rfl
      have e2 : clashV c = [] := by unfold clashV; rw [e1]; rfl
      rw [e1, e2]
      have HT2 := ht
      unfold fitX at HT2
      clear HC q ht e1 e2
      go_enter Try.func46, Try.ntmps46
      go_wp2_with fail
      refine HCK.out.mono ?_
      rintro e w1 ⟨p, rfl, hb1, hd⟩
      have c0' := (hb1.cell (p := ⟨w.heap.size, 0, none⟩) (by simp)).trans c0
      have HS := Lib.hid (share_none c p c.rooms _ w1 hd ((HR.out.below hb1 (Nat.le_refl _)).mono hb1.size) o2)
      have HD := Lib.hid (And.intro hb1 hd)
      clear hb1 hd c0
      go_wp2_with (go_at_call 115; refine HS.out.mono ?_; rw [HT2]; rintro e w2 ⟨s, g, nv, rfl, h1, h2, h3⟩; have H1 := Lib.hid h2; clear h1 h2)
      go_ret2
      refine ⟨_, rfl, ints_nil _ _, HB.out.trans ((HD.out.1.mono (by simp)).trans (H1.out.mono ?_))⟩
      exact Nat.le_trans (by simp) HD.out.1.size
    · have e1 : clashErr c = 0 := by unfold clashErr; rw [if_pos q, ht]; rfl
      have e2 : clashV c = natsI (members (fitX c).short) := by unfold clashV; rw [e1]; rfl
      rw [e1, e2]
      have HT2 := ht
      unfold fitX at HT2
      have HS6 := Lib.hid (HS64.out q ht)
      unfold fitX at HS6
      clear HC q ht e1 e2
      go_enter Try.func46, Try.ntmps46
      go_wp2_with fail
      refine HCK.out.mono ?_
      rintro e w1 ⟨p, rfl, hb1, hd⟩
      have c0' := (hb1.cell (p := ⟨w.heap.size, 0, none⟩) (by simp)).trans c0
      have HS := Lib.hid (share_none c p c.rooms _ w1 hd ((HR.out.below hb1 (Nat.le_refl _)).mono hb1.size) o2)
      have HD := Lib.hid (And.intro hb1 hd)
      clear hb1 hd c0
      go_wp2_with (first | (go_at_call 115; refine HS.out.mono ?_; rw [HT2]; rintro e w2 ⟨s, g, nv, rfl, h1, h2, h3⟩; have H1 := Lib.hid h2; clear h1 h2) | (go_at_call 94; refine (list_any _ HS6.out _).mono ?_; rintro e w3 ⟨v, rfl, hv, hb3⟩; have H3 := Lib.hid (And.intro hv hb3); clear hv hb3))
      go_ret2
      have h1 := HB.out.trans (HD.out.1.mono (by simp))
      have h2 := h1.trans (H1.out.mono h1.size)
      exact ⟨v, rfl, H3.out.1, h2.trans (H3.out.2.mono h2.size)⟩
  · have HCK := Lib.hid (opened_bad c _ _ _ _ _ HC.out q)
    have e1 : clashErr c = checkC c := by unfold clashErr; rw [if_neg q]
    have e2 : clashV c = [] := by unfold clashV; rw [e1, if_neg q]
    rw [e1, e2]
    have hk1 : (checkC c == 0) = false := by simpa using q
    have hk2 : (checkC c != 0) = true := by simp [bne, hk1]
    clear q e1 e2 HC c0
    go_enter Try.func46, Try.ntmps46
    go_wp2_with fail
    refine HCK.out.mono ?_
    rintro e w1 ⟨rfl, hb1⟩
    go_wp2_with fail
    go_ret2
    exact ⟨_, rfl, ints_nil _ _, HB.out.trans (hb1.mono (by simp))⟩
end Go.Proofs.Ytnhifinfjfpoiaa

namespace Go.Proofs.Ytnhifinfjfpoiaa
open Go.RowKit

theorem checkC_not7 (c : Col) : checkC c ≠ 7 := by
  unfold checkC
  repeat' split
  all_goals decide
theorem fit_7 {c : Col} (h : fitErr c = 7) : checkC c = 0 ∧ (fitX c).torn = true := by
  unfold fitErr at h
  by_cases q : checkC c = 0
  · rw [if_pos q] at h
    cases ht : (fitX c).torn
    · rw [ht] at h; simp at h
    · exact ⟨q, rfl⟩
  · rw [if_neg q] at h; exact absurd h (checkC_not7 c)
theorem clash_0 {c : Col} (h : fitErr c = 0) : clashErr c = 1 ∧ clashV c = [] := by
  obtain ⟨q, ht⟩ := fit_parts h
  have e : clashErr c = 1 := by unfold clashErr; rw [if_pos q, ht]; rfl
  exact ⟨e, by unfold clashV; rw [e]; rfl⟩
theorem clash_else {c : Col} (h0 : ¬ fitErr c = 0) (h7 : ¬ fitErr c = 7) : clashErr c = fitErr c ∧ clashV c = [] := by
  unfold fitErr at h0 h7
  by_cases q : checkC c = 0
  · rw [if_pos q] at h0 h7
    cases ht : (fitX c).torn
    · rw [ht] at h0; simp at h0
    · rw [ht] at h7; simp at h7
  · have e : clashErr c = checkC c := by unfold clashErr; rw [if_neg q]
    have e2 : fitErr c = checkC c := by unfold fitErr; rw [if_neg q]
    exact ⟨by rw [e, e2], by unfold clashV; rw [e, if_neg q]⟩

theorem nth_members {l : List Nat} {i : Nat} (h : i < l.length) : nth (natsI l) i = (l[i] : Nat) := by
  rw [nth_eq (by rw [natsI_len]; exact h)]; simp [natsI]
theorem range_filter_inc (p : Nat → Bool) : ∀ n, ∀ i j, (hi : i < j) → (hj : j < ((List.range n).filter p).length) → ((List.range n).filter p)[i] < ((List.range n).filter p)[j] := by
  intro n i j hi hj
  have h := (List.pairwise_lt_range (n := n)).filter p
  exact List.pairwise_iff_getElem.1 h i j (by omega) hj hi
theorem incB_members (m : Nat) : incB (natsI (members m)) = true := by
  unfold incB
  rw [allB_iff, natsI_len]
  intro i hi
  rw [nth_members (by omega), nth_members (by omega)]
  have := range_filter_inc m.testBit 6 i (i + 1) (by omega) (by show i + 1 < (members m).length; omega)
  simp only [decide_eq_true_eq]
  exact_mod_cast this
theorem setTo_mem {l : List Int} (h0 : ∀ i, i < l.length → 0 ≤ nth l i) (h : Nat) : ∀ k, k ≤ l.length → ((setTo l k).testBit h = true ↔ ∃ i, i < k ∧ nth l i = (h : Int)) := by
  intro k hk
  rw [setTo_bit h0 h k hk]
  unfold toldTo
  rw [anyB_ex]
  simp
theorem setTo_members {m : Nat} (hm : m < 64) : setTo (natsI (members m)) (natsI (members m)).length = m := by
  have h0 : ∀ i, i < (natsI (members m)).length → 0 ≤ nth (natsI (members m)) i := fun i hi => by
    rw [nth_members (by rw [natsI_len] at hi; exact hi)]; omega
  have h6 : ∀ i, i < (natsI (members m)).length → (nth (natsI (members m)) i).toNat < 6 := fun i hi => by
    have hi' : i < (members m).length := by rw [natsI_len] at hi; exact hi
    rw [nth_members hi', Int.toNat_natCast]
    exact members_lt m _ (List.getElem_mem hi')
  refine mask_ext (setTo_lt h6 _ (Nat.le_refl _)) hm fun o ho => ?_
  rw [Bool.eq_iff_iff, setTo_mem h0 o _ (Nat.le_refl _)]
  constructor
  · rintro ⟨i, hi, e⟩
    have hi' : i < (members m).length := by rw [natsI_len] at hi; exact hi
    rw [nth_members hi'] at e
    have e' : (members m)[i] = o := by exact_mod_cast e
    have := List.getElem_mem hi'
    rw [e'] at this
    exact (List.mem_filter.1 this).2
  · intro hb
    have hmem : o ∈ members m := List.mem_filter.2 ⟨List.mem_range.2 ho, hb⟩
    obtain ⟨i, hi, e⟩ := List.getElem_of_mem hmem
    exact ⟨i, by rw [natsI_len]; exact hi, by rw [nth_members hi, e]⟩
def lsum (r : Nat → Int) : List Nat → Int
  | [] => 0
  | x :: l => lsum r l + r x
theorem lsum_app (r : Nat → Int) : ∀ (l m : List Nat), lsum r (l ++ m) = lsum r l + lsum r m
  | [], m => by simp [lsum]
  | x :: l, m => by
    have h := lsum_app r l m
    show lsum r (l ++ m) + r x = lsum r l + r x + lsum r m
    omega
theorem lsum_filter (r : Nat → Int) (p : Nat → Bool) : ∀ n, lsum r ((List.range n).filter p) = sumN (fun h => if p h = true then r h else 0) n
  | 0 => rfl
  | n + 1 => by
    rw [List.range_succ, List.filter_append, lsum_app, lsum_filter r p n, sumN_succ]
    congr 1
    cases hp : p n
    · simp [hp, lsum]
    · simp [hp, lsum]
theorem roomTo_take (c : Col) (l : List Nat) : ∀ k, k ≤ l.length → roomTo c (natsI l) k = lsum (nth c.rooms) (l.take k)
  | 0, _ => by simp [roomTo, lsum]
  | k + 1, hk => by
    have e : roomTo c (natsI l) (k + 1) = roomTo c (natsI l) k + nth c.rooms (nth (natsI l) k).toNat := rfl
    rw [e, roomTo_take c l k (by omega), nth_members (by omega), List.take_succ_eq_append_getElem (by omega), lsum_app]
    simp [lsum]
theorem roomTo_members (c : Col) (m : Nat) : roomTo c (natsI (members m)) (natsI (members m)).length = roomsOf (nth c.rooms) m.testBit := by
  rw [natsI_len, roomTo_take c _ _ (Nat.le_refl _), List.take_of_length_le (Nat.le_refl _)]
  exact lsum_filter (nth c.rooms) m.testBit 6
theorem clash_short {c : Col} (h : fitErr c = 7) : clashErr c = 0 ∧ (shortV c (clashV c)).2 = 0 ∧ 1 ≤ (shortV c (clashV c)).1 := by
  obtain ⟨q, ht⟩ := fit_7 h
  have ok := okCol_of q
  have e1 : clashErr c = 0 := by unfold clashErr; rw [if_pos q, ht]; rfl
  have e2 : clashV c = natsI (members (fitX c).short) := by unfold clashV; rw [e1]; rfl
  obtain ⟨hs64, hlt⟩ := (fit_fed ok).torn_short ht
  have hse : shortErr c (clashV c) = 0 := by
    unfold shortErr
    have ha : allHouse c (clashV c) = true := by
      unfold allHouse
      rw [allB_iff, e2, natsI_len]
      intro i hi
      rw [nth_members hi]
      have hm := List.getElem_mem hi
      have := fit_short_in ok _ (List.mem_filter.1 hm).2
      unfold inB; simp; omega
    rw [if_pos q, ha]; rfl
  have hn : 1 ≤ shortN c (clashV c) := by
    unfold shortN
    rw [e2, setTo_members hs64, roomTo_members, ratsTo_is (needs_frm ok.houses.2) hs64 _ (Nat.le_refl _)]
    unfold ratsOf at hlt
    omega
  have hv : shortV c (clashV c) = (shortN c (clashV c), 0) := by
    unfold shortV
    rw [if_pos hse, if_pos (by rw [e2]; exact incB_members _), if_neg (by omega)]
  rw [hv]
  exact ⟨e1, rfl, hn⟩
end Go.Proofs.Ytnhifinfjfpoiaa

namespace Go.Proofs.Ytnhifinfjfpoiaa
open Go.RowKit
set_option linter.unusedVariables false

def ratsA (c : Col) : Int × Int := if fitErr c = 0 then ratsC c else (0, 0)
theorem rats_ask (c : Col) (r t u n : Value) (w : World) (hc : ColAt w w.heap.size r t u n c) :
    Calls Try.prog 41 #[.agg #[r, t, u, n]] w fun e w' => e = .returned (.tuple #[.agg #[.int .i64 (ratsA c).1, .int .i64 (ratsA c).2], .int .i64 (fitErr c)]) ∧ Below w.heap.size w w' := by
  by_cases hk : fitErr c = 0
  · have e : ratsA c = ratsC c := if_pos hk
    rw [e, hk]; exact Rats_ok c r t u n w hc hk
  · have e : ratsA c = (0, 0) := if_neg hk
    rw [e]; exact Rats_bad c r t u n w hc hk
theorem clash_ask (c : Col) (r t u n : Value) (w : World) (hc : ColAt w w.heap.size r t u n c) :
    Calls Try.prog 46 #[.agg #[r, t, u, n]] w fun e w' => ∃ v, e = .returned (.tuple #[v, .int .i64 (clashErr c)]) ∧ IsInts w' w'.heap.size v (clashV c) ∧ Below w.heap.size w w' :=
  Clash_any c r t u n w hc fun q ht => ((fit_fed (okCol_of q)).torn_short ht).1
theorem short_ask (c : Col) (r t u n lv : Value) (l : List Int) (w : World) (hc : ColAt w w.heap.size r t u n c) (hw : IsInts w w.heap.size lv l) :
    Calls Try.prog 43 #[.agg #[r, t, u, n], lv] w fun e w' => e = .returned (.tuple #[.int .i64 (shortV c l).1, .int .i64 (shortV c l).2]) ∧ Below w.heap.size w w' := by
  by_cases hk : shortErr c l = 0
  · exact Short_good c r t u n lv l w hc hw hk
  · exact Short_bad c r t u n lv l w hc hw hk
end Go.Proofs.Ytnhifinfjfpoiaa
