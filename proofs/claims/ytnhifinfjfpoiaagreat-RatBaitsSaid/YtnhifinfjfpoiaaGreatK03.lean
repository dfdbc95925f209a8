/- What the search for a place computes, in plain Lean; and the memory in which it works. A part of a function's code, named by its path; the frame of a search's parts. A region that draws its order, walked in a round's frame as a plain one: what stands still is taken in the order of the text, its tail is a plain list of operations. The search's step in a house that has room. The search where another need has found another house. The search's step in a house that was not tried: it has room, or the other needs are asked in turn. The walk of stall.put's search: it computes tryF. Contract of stall.put: one search, with no house tried at its beginning. -/
import Derived.Test.YtnhifinfjfpoiaaGreatK02
import Derived.Laws.EntriesVeiled
import Derived.Scope
import Derived.StillTailTactics
import Derived.OrdersIn
namespace Go.Proofs.YtnhifinfjfpoiaaGreat
open Go.RowKit
set_option linter.unusedVariables false

/-- One more, one less, in 64 bits. -/
def incW (x : Int) : Int := wrap64 (x + 1)
def decW (x : Int) : Int := wrap64 (x - 1)

/-- The state of the search: the houses that were tried, the room that is left, and how many rats of each need come from each house. -/
structure St where
  t : Nat
  room : Nat → Int
  giv : Nat → Nat → Int
def St.tick (s : St) (h : Nat) : St := { s with t := orN s.t (pw h) }
def St.setR (s : St) (h : Nat) (x : Int) : St := { s with room := fun j => if j = h then x else s.room j }
def St.setG (s : St) (k h : Nat) (x : Int) : St := { s with giv := fun o j => if o = k ∧ j = h then x else s.giv o j }
def St.give (s : St) (k h : Nat) : St := s.setG k h (incW (s.giv k h))
def St.back (s : St) (o h : Nat) : St := s.setG o h (decW (s.giv o h))
def St.room1 (s : St) (h : Nat) : St := s.setR h (decW (s.room h))

def tryO (rec : Nat → St → Bool × St) (k h : Nat) : List Nat → St → Bool × St
  | [], s => (false, s)
  | o :: l, s =>
    if 0 < s.giv o h then
      if (rec o s).1 = true then (true, ((rec o s).2.back o h).give k h) else tryO rec k h l (rec o s).2
    else tryO rec k h l s
def tryH (rec : Nat → St → Bool × St) (K k : Nat) : List Nat → St → Bool × St
  | [], s => (false, s)
  | h :: l, s =>
    if s.t.testBit h = true then tryH rec K k l s
    else if 0 < s.room h then (true, ((s.tick h).room1 h).give k h)
    else if (tryO rec k h (List.range K) (s.tick h)).1 = true then (true, (tryO rec k h (List.range K) (s.tick h)).2)
    else tryH rec K k l (tryO rec k h (List.range K) (s.tick h)).2
def tryF (from_ : Nat → Nat) (K : Nat) : Nat → Nat → St → Bool × St
  | 0, _, s => (false, s)
  | n + 1, k, s => tryH (tryF from_ K n) K k (members (from_ k)) s

theorem tryO_cons (rec : Nat → St → Bool × St) (k h o : Nat) (l : List Nat) (s : St) : tryO rec k h (o :: l) s =
    if 0 < s.giv o h then
      if (rec o s).1 = true then (true, ((rec o s).2.back o h).give k h) else tryO rec k h l (rec o s).2
    else tryO rec k h l s := rfl
theorem tryH_cons (rec : Nat → St → Bool × St) (K k h : Nat) (l : List Nat) (s : St) : tryH rec K k (h :: l) s =
    if s.t.testBit h = true then tryH rec K k l s
    else if 0 < s.room h then (true, ((s.tick h).room1 h).give k h)
    else if (tryO rec k h (List.range K) (s.tick h)).1 = true then (true, (tryO rec k h (List.range K) (s.tick h)).2)
    else tryH rec K k l (tryO rec k h (List.range K) (s.tick h)).2 := rfl
theorem tryO_app_no (rec : Nat → St → Bool × St) (k h : Nat) : ∀ (l m : List Nat) (s s' : St), tryO rec k h l s = (false, s') → tryO rec k h (l ++ m) s = tryO rec k h m s'
  | [], m, s, s', e => by cases e; rfl
  | o :: l, m, s, s', e => by
    rw [tryO_cons] at e
    rw [List.cons_append, tryO_cons]
    split at e
    · rename_i h1
      rw [if_pos h1]
      split at e
      · cases e
      · rename_i h2; rw [if_neg h2]; exact tryO_app_no rec k h l m _ _ e
    · rename_i h1; rw [if_neg h1]; exact tryO_app_no rec k h l m _ _ e
theorem tryO_app_yes (rec : Nat → St → Bool × St) (k h : Nat) : ∀ (l m : List Nat) (s s' : St), tryO rec k h l s = (true, s') → tryO rec k h (l ++ m) s = (true, s')
  | [], m, s, s', e => by cases e
  | o :: l, m, s, s', e => by
    rw [tryO_cons] at e
    rw [List.cons_append, tryO_cons]
    split at e
    · rename_i h1
      rw [if_pos h1]
      split at e
      · rename_i h2; rw [if_pos h2]; exact e
      · rename_i h2; rw [if_neg h2]; exact tryO_app_yes rec k h l m _ _ e
    · rename_i h1; rw [if_neg h1]; exact tryO_app_yes rec k h l m _ _ e
theorem tryH_app_no (rec : Nat → St → Bool × St) (K k : Nat) : ∀ (l m : List Nat) (s s' : St), tryH rec K k l s = (false, s') → tryH rec K k (l ++ m) s = tryH rec K k m s'
  | [], m, s, s', e => by cases e; rfl
  | h :: l, m, s, s', e => by
    rw [tryH_cons] at e
    rw [List.cons_append, tryH_cons]
    split at e
    · rename_i h1; rw [if_pos h1]; exact tryH_app_no rec K k l m _ _ e
    · rename_i h1; rw [if_neg h1]
      split at e
      · cases e
      · rename_i h2; rw [if_neg h2]
        split at e
        · cases e
        · rename_i h3; rw [if_neg h3]; exact tryH_app_no rec K k l m _ _ e
theorem tryH_app_yes (rec : Nat → St → Bool × St) (K k : Nat) : ∀ (l m : List Nat) (s s' : St), tryH rec K k l s = (true, s') → tryH rec K k (l ++ m) s = (true, s')
  | [], m, s, s', e => by cases e
  | h :: l, m, s, s', e => by
    rw [tryH_cons] at e
    rw [List.cons_append, tryH_cons]
    split at e
    · rename_i h1; rw [if_pos h1]; exact tryH_app_yes rec K k l m _ _ e
    · rename_i h1; rw [if_neg h1]
      split at e
      · rename_i h2; rw [if_pos h2]; exact e
      · rename_i h2; rw [if_neg h2]
        split at e
        · rename_i h3; rw [if_pos h3]; exact e
        · rename_i h3; rw [if_neg h3]; exact tryH_app_yes rec K k l m _ _ e

/-- One step further: a list with an element more at its end. -/
theorem tryO_skip {rec : Nat → St → Bool × St} {k h : Nat} {l : List Nat} {s s' : St} {o : Nat} (e : tryO rec k h l s = (false, s')) (hg : ¬ 0 < s'.giv o h) : tryO rec k h (l ++ [o]) s = (false, s') := by
  rw [tryO_app_no _ _ _ _ _ _ _ e, tryO_cons, if_neg hg]; rfl
theorem tryO_miss {rec : Nat → St → Bool × St} {k h : Nat} {l : List Nat} {s s' s'' : St} {o : Nat} (e : tryO rec k h l s = (false, s')) (hg : 0 < s'.giv o h) (hr : rec o s' = (false, s'')) : tryO rec k h (l ++ [o]) s = (false, s'') := by
  rw [tryO_app_no _ _ _ _ _ _ _ e, tryO_cons, if_pos hg, hr]; rfl
theorem tryO_hit {rec : Nat → St → Bool × St} {k h : Nat} {l : List Nat} {s s' s'' : St} {o : Nat} (e : tryO rec k h l s = (false, s')) (hg : 0 < s'.giv o h) (hr : rec o s' = (true, s'')) : tryO rec k h (l ++ [o]) s = (true, (s''.back o h).give k h) := by
  rw [tryO_app_no _ _ _ _ _ _ _ e, tryO_cons, if_pos hg, hr]; rfl
theorem tryH_skip {rec : Nat → St → Bool × St} {K k : Nat} {l : List Nat} {s s' : St} {h : Nat} (e : tryH rec K k l s = (false, s')) (ht : s'.t.testBit h = true) : tryH rec K k (l ++ [h]) s = (false, s') := by
  rw [tryH_app_no _ _ _ _ _ _ _ e, tryH_cons, if_pos ht]; rfl
theorem tryH_room {rec : Nat → St → Bool × St} {K k : Nat} {l : List Nat} {s s' : St} {h : Nat} (e : tryH rec K k l s = (false, s')) (ht : s'.t.testBit h = false) (hr : 0 < s'.room h) :
    tryH rec K k (l ++ [h]) s = (true, ((s'.tick h).room1 h).give k h) := by
  rw [tryH_app_no _ _ _ _ _ _ _ e, tryH_cons, if_neg (by rw [ht]; decide), if_pos hr]
theorem tryH_hit {rec : Nat → St → Bool × St} {K k : Nat} {l : List Nat} {s s' s'' : St} {h : Nat} (e : tryH rec K k l s = (false, s')) (ht : s'.t.testBit h = false) (hr : ¬ 0 < s'.room h)
    (ho : tryO rec k h (List.range K) (s'.tick h) = (true, s'')) : tryH rec K k (l ++ [h]) s = (true, s'') := by
  rw [tryH_app_no _ _ _ _ _ _ _ e, tryH_cons, if_neg (by rw [ht]; decide), if_neg hr, ho]; rfl
theorem tryH_miss {rec : Nat → St → Bool × St} {K k : Nat} {l : List Nat} {s s' s'' : St} {h : Nat} (e : tryH rec K k l s = (false, s')) (ht : s'.t.testBit h = false) (hr : ¬ 0 < s'.room h)
    (ho : tryO rec k h (List.range K) (s'.tick h) = (false, s'')) : tryH rec K k (l ++ [h]) s = (false, s'') := by
  rw [tryH_app_no _ _ _ _ _ _ _ e, tryH_cons, if_neg (by rw [ht]; decide), if_neg hr, ho]; rfl

/-- The tried houses only grow, and stay in six bits. -/
def Sub (a b : Nat) : Prop := a < 64 → b < 64 ∧ ∀ o, a.testBit o = true → b.testBit o = true
theorem Sub.refl (a : Nat) : Sub a a := fun h => ⟨h, fun _ h => h⟩
theorem Sub.trans {a b c : Nat} (h : Sub a b) (k : Sub b c) : Sub a c := fun ha => ⟨(k (h ha).1).1, fun o ho => (k (h ha).1).2 o ((h ha).2 o ho)⟩
theorem sub_or (a h : Nat) (hh : h < 6) : Sub a (orN a (pw h)) := fun ha => ⟨orN_lt ha (pw_lt hh), fun o ho => by rw [orN_bit, ho]; rfl⟩
theorem tryO_sub {rec : Nat → St → Bool × St} (hr : ∀ o s, Sub s.t (rec o s).2.t) (k h : Nat) : ∀ (l : List Nat) (s : St), Sub s.t (tryO rec k h l s).2.t
  | [], s => Sub.refl _
  | o :: l, s => by
    rw [tryO_cons]
    split
    · split
      · exact hr o s
      · exact (hr o s).trans (tryO_sub hr k h l _)
    · exact tryO_sub hr k h l s
theorem tryH_sub {rec : Nat → St → Bool × St} (hr : ∀ o s, Sub s.t (rec o s).2.t) (K k : Nat) : ∀ (l : List Nat) (s : St), (∀ h ∈ l, h < 6) → Sub s.t (tryH rec K k l s).2.t
  | [], s, _ => Sub.refl _
  | h :: l, s, hl => by
    have h6 := hl h (by simp)
    have ih : ∀ s : St, Sub s.t (tryH rec K k l s).2.t := fun s => tryH_sub hr K k l s (fun x hx => hl x (by simp [hx]))
    rw [tryH_cons]
    split
    · exact ih s
    · split
      · exact sub_or _ _ h6
      · have h2 : Sub s.t (tryO rec k h (List.range K) (s.tick h)).2.t := (sub_or s.t h h6).trans (tryO_sub hr k h _ (s.tick h))
        split
        · exact h2
        · exact h2.trans (ih _)
theorem tryF_sub (from_ : Nat → Nat) (K : Nat) : ∀ (n k : Nat) (s : St), Sub s.t (tryF from_ K n k s).2.t
  | 0, _, s => Sub.refl _
  | n + 1, k, s => tryH_sub (tryF_sub from_ K n) K k _ s (members_lt _)

/-- How many of the six houses are not tried. -/
def untried (t : Nat) : Nat := (if t.testBit 0 then 0 else 1) + (if t.testBit 1 then 0 else 1) + (if t.testBit 2 then 0 else 1) + (if t.testBit 3 then 0 else 1) + (if t.testBit 4 then 0 else 1) + (if t.testBit 5 then 0 else 1)
theorem untried_le {a b : Nat} (h : ∀ o, a.testBit o = true → b.testBit o = true) : untried b ≤ untried a := by
  have key : ∀ o, (if b.testBit o then 0 else 1) ≤ (if a.testBit o then 0 else 1) := fun o => by
    cases ha : a.testBit o
    · split <;> simp
    · simp [h o ha]
  have := key 0; have := key 1; have := key 2; have := key 3; have := key 4; have := key 5
  unfold untried; omega
theorem untried_tick {a h : Nat} (hh : h < 6) (ha : a.testBit h = false) : untried (orN a (pw h)) < untried a := by
  have key : ∀ o, (if (orN a (pw h)).testBit o then 0 else 1) ≤ (if a.testBit o then 0 else 1) := fun o => by
    rw [orN_bit]; cases a.testBit o <;> simp; split <;> simp
  have k1 : (if (orN a (pw h)).testBit h then 0 else 1) < (if a.testBit h then 0 else 1) := by
    rw [orN_bit, ha, pw_bit]; simp
  have := key 0; have := key 1; have := key 2; have := key 3; have := key 4; have := key 5
  unfold untried
  match h, hh with
  | 0, _ => omega
  | 1, _ => omega
  | 2, _ => omega
  | 3, _ => omega
  | 4, _ => omega
  | 5, _ => omega

/-- Nothing that stood has turned, but the blocks s, g and b. -/
structure Kept (s g b : Nat) (w w' : World) : Prop where
  os : w'.os = w.os
  tape : w'.tape = w.tape
  output : w'.output = w.output
  size : w.heap.size ≤ w'.heap.size
  block : ∀ k, k < w.heap.size → k ≠ s → k ≠ g → k ≠ b → w'.heap[k]? = w.heap[k]?
theorem Kept.refl (s g b : Nat) (w : World) : Kept s g b w w := ⟨rfl, rfl, rfl, Nat.le_refl _, fun _ _ _ _ _ => rfl⟩
theorem Kept.trans {s g b : Nat} {w w' w'' : World} (h : Kept s g b w w') (k : Kept s g b w' w'') : Kept s g b w w'' :=
  ⟨k.os.trans h.os, k.tape.trans h.tape, k.output.trans h.output, Nat.le_trans h.size k.size, fun i hi h1 h2 h3 => (k.block i (Nat.lt_of_lt_of_le hi h.size) h1 h2 h3).trans (h.block i hi h1 h2 h3)⟩
theorem Kept.of {s g b : Nat} {w w' : World} (h : Below w.heap.size w w') : Kept s g b w w' := ⟨h.os, h.tape, h.output, h.size, fun k hk _ _ _ => h.block k hk⟩
theorem Kept.below {s g b B : Nat} {w w' : World} (h : Kept s g b w w') (hB : B ≤ w.heap.size) (h1 : B ≤ s) (h2 : B ≤ g) (h3 : B ≤ b) : Below B w w' :=
  ⟨h.os, h.tape, h.output, h.size, fun k hk => h.block k (by omega) (by omega) (by omega) (by omega)⟩
theorem Kept.onto {s g b B : Nat} {w w' w'' : World} (h : Kept s g b w w') (k : Below B w' w'') (hB : w.heap.size ≤ B) : Kept s g b w w'' :=
  ⟨k.os.trans h.os, k.tape.trans h.tape, k.output.trans h.output, Nat.le_trans h.size k.size, fun i hi h1 h2 h3 => (k.block i (Nat.lt_of_lt_of_le hi hB)).trans (h.block i hi h1 h2 h3)⟩
theorem Kept.keeps {s g b B : Nat} {w w' : World} (h : Kept s g b w w') (h1 : s < B) (h2 : g < B) (h3 : b < B) : KeepsFrom B w w' :=
  ⟨h.size, fun k o hB hk _ => (h.block k (Array.getElem?_eq_some_iff.1 hk).1 (by omega) (by omega) (by omega)).trans hk⟩
theorem Kept.cell {s g b : Nat} {w w' : World} (h : Kept s g b w w') {p : Addr} (hp : p.block < w.heap.size) (h1 : p.block ≠ s) (h2 : p.block ≠ g) (h3 : p.block ≠ b) : w'.cell? p = w.cell? p :=
  World.cell?_of_block (h.block _ hp h1 h2 h3)
theorem Kept.set {s g b : Nat} {w w' : World} (h : Kept s g b w w') (a : Addr) (v : Value) (ha : a.block = s ∨ a.block = g ∨ a.block = b ∨ w.heap.size ≤ a.block) : Kept s g b w (w'.setCell a v) := by
  refine ⟨h.os, h.tape, h.output, by rw [size_set]; exact h.size, fun k hk h1 h2 h3 => ?_⟩
  have hne : k ≠ a.block := by rintro rfl; omega
  rw [← h.block k hk h1 h2 h3]
  exact Below.heap_setCell _ _ _ _ hne
theorem Kept.drew {s g b : Nat} {w w' : World} (h : Kept s g b w w') : Kept s g b w w'.drew := ⟨h.os, h.tape, h.output, h.size, h.block⟩
theorem Kept.boxed {s g b B t : Nat} {w w' : World} {v : Value} (h : Kept s g b w w') (hb : Boxed w B t v) (h1 : B ≠ s) (h2 : B ≠ g) (h3 : B ≠ b) : Boxed w' B t v := by
  have hlt : B < w.heap.size := (Array.getElem?_eq_some_iff.1 hb).1
  exact (h.block B hlt h1 h2 h3).trans hb

/-- The stall's eight cells: six rooms, the needs, what is given. -/
def eight (r : Nat → Int) (nv gv : Value) : Array Value := #[.int .i64 (r 0), .int .i64 (r 1), .int .i64 (r 2), .int .i64 (r 3), .int .i64 (r 4), .int .i64 (r 5), nv, gv]
theorem eight_get (r : Nat → Int) (nv gv : Value) (h : Nat) (hh : h < 6) : (eight r nv gv)[h]? = some (.int .i64 (r h)) := by
  match h, hh with
  | 0, _ => rfl
  | 1, _ => rfl
  | 2, _ => rfl
  | 3, _ => rfl
  | 4, _ => rfl
  | 5, _ => rfl
theorem eight_set (r : Nat → Int) (nv gv : Value) (h : Nat) (x : Int) (hh : h < 6) : (eight r nv gv).setIfInBounds h (.int .i64 x) = eight (fun j => if j = h then x else r j) nv gv := by
  match h, hh with
  | 0, _ => rfl
  | 1, _ => rfl
  | 2, _ => rfl
  | 3, _ => rfl
  | 4, _ => rfl
  | 5, _ => rfl
/-- Block g: K rows of six numbers. -/
def GivAt (w : World) (g K : Nat) (f : Nat → Nat → Int) : Prop :=
  ∃ A : Array Value, w.heap[g]? = some (.cells A 160 (0, 0)) ∧ A.size = K * 6 ∧ ∀ o h, o < K → h < 6 → A[o * 6 + h]? = some (.int .i64 (f o h))
theorem GivAt.cell {w : World} {g K : Nat} {f : Nat → Nat → Int} (hg : GivAt w g K f) (o h : Nat) (ho : o < K) (hh : h < 6) : w.cell? ⟨g, o * 6 + h, none⟩ = some (.int .i64 (f o h)) := by
  obtain ⟨A, h1, h2, h3⟩ := hg
  exact (cell_of_row w g _ _ _ _ h1).trans (h3 o h ho hh)
theorem GivAt.free {w : World} {g K : Nat} {f : Nat → Nat → Int} (hg : GivAt w g K f) (o : Nat) : w.frozen? ⟨g, o, none⟩ = false := by
  obtain ⟨A, h1, h2, h3⟩ := hg
  exact frozen_of_row w g _ _ _ h1
theorem GivAt.set {w : World} {g K : Nat} {f : Nat → Nat → Int} (hg : GivAt w g K f) (o h : Nat) (x : Int) (ho : o < K) (hh : h < 6) :
    GivAt (w.setCell ⟨g, o * 6 + h, none⟩ (.int .i64 x)) g K (fun p j => if p = o ∧ j = h then x else f p j) := by
  obtain ⟨A, h1, h2, h3⟩ := hg
  refine ⟨A.setIfInBounds (o * 6 + h) (.int .i64 x), ?_, by simp [h2], fun p j hp hj => ?_⟩
  · rw [heap_setCell_same w g _ _ _ _ h1]
  · rw [Array.getElem?_setIfInBounds]
    by_cases e : p = o ∧ j = h
    · obtain ⟨rfl, rfl⟩ := e
      rw [if_pos rfl, if_pos (by omega)]
      simp
    · rw [if_neg (by omega)]
      simp only [if_neg e]
      exact h3 p j hp hj

/-- The blocks of the search: the stall, what is given, the tried houses, the search itself, the stall's pointer. -/
structure Pt where
  s : Nat
  g : Nat
  b : Nat
  y : Nat
  q : Nat
  B : Nat
structure Pt.Ok (P : Pt) : Prop where
  s : P.B ≤ P.s
  g : P.B ≤ P.g
  b : P.B ≤ P.b
  y : P.B ≤ P.y
  q : P.B ≤ P.q
  sg : P.s ≠ P.g
  sb : P.s ≠ P.b
  gb : P.g ≠ P.b
  ys : P.y ≠ P.s
  yg : P.y ≠ P.g
  yb : P.y ≠ P.b
  qs : P.q ≠ P.s
  qg : P.q ≠ P.g
  qb : P.q ≠ P.b
def stallV (P : Pt) (K : Nat) : Value := .slice (some ⟨P.g, 0, none⟩) K K
structure PutAt (w : World) (P : Pt) (nv : Value) (nl : List (Int × Int)) (st : St) : Prop where
  stall : w.heap[P.s]? = some (.cells (eight st.room nv (stallV P nl.length)) 163 (0, 0))
  giv : GivAt w P.g nl.length st.giv
  tried : Boxed w P.b 81 (.int .i64 st.t)
  self : Boxed w P.y 79 (.func (.func 133) #[] #[.pointer (some ⟨P.q, 0, none⟩), .pointer (some ⟨P.b, 0, none⟩), .pointer (some ⟨P.y, 0, none⟩)])
  ptr : Boxed w P.q 136 (.pointer (some ⟨P.s, 0, none⟩))
  needs : IsPairs w P.B nv nl
  base : P.B ≤ w.heap.size
  t6 : st.t < 64
theorem PutAt.below {w w' : World} {P : Pt} {nv : Value} {nl : List (Int × Int)} {st : St} {B : Nat} (h : PutAt w P nv nl st) (hb : Below B w w') (hB : w.heap.size ≤ B) : PutAt w' P nv nl st := by
  have lt : ∀ {k : Nat} {o : Obj}, w.heap[k]? = some o → w'.heap[k]? = some o := fun {k o} e => (hb.block k (Nat.lt_of_lt_of_le (Array.getElem?_eq_some_iff.1 e).1 hB)).trans e
  refine ⟨lt h.stall, ?_, lt h.tried, lt h.self, lt h.ptr, h.needs.below hb (Nat.le_trans h.base hB), Nat.le_trans h.base hb.size, h.t6⟩
  obtain ⟨A, h1, h2, h3⟩ := h.giv
  exact ⟨A, lt h1, h2, h3⟩
def Pt.Lt (P : Pt) (n : Nat) : Prop := P.s < n ∧ P.g < n ∧ P.b < n ∧ P.y < n ∧ P.q < n ∧ P.B ≤ n
theorem PutAt.lt {w : World} {P : Pt} {nv : Value} {nl : List (Int × Int)} {st : St} (h : PutAt w P nv nl st) : P.Lt w.heap.size := by
  obtain ⟨A, h1, _, _⟩ := h.giv
  exact ⟨(Array.getElem?_eq_some_iff.1 h.stall).1, (Array.getElem?_eq_some_iff.1 h1).1, (Array.getElem?_eq_some_iff.1 h.tried).1, (Array.getElem?_eq_some_iff.1 h.self).1, (Array.getElem?_eq_some_iff.1 h.ptr).1, h.base⟩
theorem Pt.Lt.mono {P : Pt} {n m : Nat} (h : P.Lt n) (k : n ≤ m) : P.Lt m := by unfold Pt.Lt at h ⊢; omega
theorem PutAt.keep {w w' : World} {P : Pt} {nv : Value} {nl : List (Int × Int)} {st : St} {B : Nat} (h : PutAt w P nv nl st) (hb : Below B w w') (hB : P.Lt B) : PutAt w' P nv nl st := by
  obtain ⟨l1, l2, l3, l4, l5, l6⟩ := hB
  refine ⟨(hb.block _ l1).trans h.stall, ?_, (hb.block _ l3).trans h.tried, (hb.block _ l4).trans h.self, (hb.block _ l5).trans h.ptr, h.needs.below hb l6, Nat.le_trans h.base hb.size, h.t6⟩
  obtain ⟨A, h1, h2, h3⟩ := h.giv
  exact ⟨A, (hb.block _ l2).trans h1, h2, h3⟩
theorem PutAt.drew {w : World} {P : Pt} {nv : Value} {nl : List (Int × Int)} {st : St} (h : PutAt w P nv nl st) : PutAt w.drew P nv nl st := h.keep (Below.refl w.heap.size w).drew h.lt
theorem needs_set {w : World} {B : Nat} {nv : Value} {nl : List (Int × Int)} (h : IsPairs w B nv nl) (hB : B ≤ w.heap.size) (a : Addr) (v : Value) (ha : B ≤ a.block) : IsPairs (w.setCell a v) B nv nl :=
  h.below ((Below.refl B w).setCell ha v) (Nat.le_refl _)
theorem PutAt.setT {w : World} {P : Pt} (hP : P.Ok) {nv : Value} {nl : List (Int × Int)} {st : St} (h : PutAt w P nv nl st) (j : Nat) (hj : j < 6) :
    PutAt (w.setCell ⟨P.b, 0, none⟩ (.int .i64 (orN st.t (pw j)))) P nv nl (st.tick j) := by
  refine ⟨(Below.heap_setCell _ _ _ _ hP.sb).trans h.stall, ?_, ?_, (Below.heap_setCell _ _ _ _ hP.yb).trans h.self, (Below.heap_setCell _ _ _ _ hP.qb).trans h.ptr, needs_set h.needs h.base _ _ hP.b, by rw [size_set]; exact h.base, orN_lt h.t6 (pw_lt hj)⟩
  · obtain ⟨A, h1, h2, h3⟩ := h.giv
    exact ⟨A, (Below.heap_setCell _ _ _ _ hP.gb).trans h1, h2, h3⟩
  · exact heap_setCell_same w P.b 0 _ _ _ h.tried
theorem PutAt.setR {w : World} {P : Pt} (hP : P.Ok) {nv : Value} {nl : List (Int × Int)} {st : St} (h : PutAt w P nv nl st) (j : Nat) (x : Int) (hj : j < 6) :
    PutAt (w.setCell ⟨P.s, j, none⟩ (.int .i64 x)) P nv nl (st.setR j x) := by
  refine ⟨?_, ?_, (Below.heap_setCell _ _ _ _ hP.sb.symm).trans h.tried, (Below.heap_setCell _ _ _ _ hP.ys).trans h.self, (Below.heap_setCell _ _ _ _ hP.qs).trans h.ptr, needs_set h.needs h.base _ _ hP.s, by rw [size_set]; exact h.base, h.t6⟩
  · rw [heap_setCell_same w P.s j _ _ _ h.stall, eight_set _ _ _ j x hj]; rfl
  · obtain ⟨A, h1, h2, h3⟩ := h.giv
    exact ⟨A, (Below.heap_setCell _ _ _ _ hP.sg.symm).trans h1, h2, h3⟩
theorem PutAt.setG {w : World} {P : Pt} (hP : P.Ok) {nv : Value} {nl : List (Int × Int)} {st : St} (h : PutAt w P nv nl st) (o j : Nat) (x : Int) (ho : o < nl.length) (hj : j < 6) :
    PutAt (w.setCell ⟨P.g, o * 6 + j, none⟩ (.int .i64 x)) P nv nl (st.setG o j x) :=
  ⟨(Below.heap_setCell _ _ _ _ hP.sg).trans h.stall, h.giv.set o j x ho hj, (Below.heap_setCell _ _ _ _ hP.gb.symm).trans h.tried, (Below.heap_setCell _ _ _ _ hP.yg).trans h.self, (Below.heap_setCell _ _ _ _ hP.qg).trans h.ptr, needs_set h.needs h.base _ _ hP.g, by rw [size_set]; exact h.base, h.t6⟩
end Go.Proofs.YtnhifinfjfpoiaaGreat

namespace Go.Proofs.YtnhifinfjfpoiaaGreat
open Go.RowKit
set_option linter.unusedVariables false

/-- The part of a code at a path. -/
def sub : List Nat → Code → Code
  | [], c => c
  | 0 :: p, .seq a _ => sub p a
  | _ :: p, .seq _ b => sub p b
  | 0 :: p, .cond _ a _ => sub p a
  | _ :: p, .cond _ _ b => sub p b
  | _ :: p, .block _ c => sub p c
  | _ :: p, .loop c => sub p c
  | _ :: p, .scope c => sub p c
  | 0 :: p, .rangeFunc _ _ a _ => sub p a
  | _ :: p, .rangeFunc _ _ _ b => sub p b
  | _, c => c
def bodyOf (f : Func) : Code := f.body.getD .skip

def Done (A : Act) (W : World) (e : Exit) (a : Act) (w : World) : Prop := e = .normal ∧ a = A ∧ w = W
theorem wpIn_to {F : Fence} {n : Nat} {P : Program} {c : Code} {Q : Exit → Act → World → Prop} {a : Act} {w : World} (A : Act) (W : World) (h : c.wpIn F n P (Done A W) a w) (hq : Q .normal A W) : c.wpIn F n P Q a w :=
  wpIn_mono h (by rintro _ _ _ ⟨rfl, rfl, rfl⟩; exact hq)

def frm (nl : List (Int × Int)) (k : Nat) : Nat := (nthP nl k).2.toNat
def FrmOk (nl : List (Int × Int)) : Prop := ∀ k, k < nl.length → (nthP nl k).2 = (frm nl k : Int) ∧ frm nl k < 64
theorem PutAt.nv {w : World} {P : Pt} {nv : Value} {nl : List (Int × Int)} {st : St} (h : PutAt w P nv nl st) : w.cell? ⟨P.s, 6, none⟩ = some nv := (cell_of_row w P.s 6 _ _ _ h.stall).trans rfl
theorem PutAt.gv {w : World} {P : Pt} {nv : Value} {nl : List (Int × Int)} {st : St} (h : PutAt w P nv nl st) : w.cell? ⟨P.s, 7, none⟩ = some (stallV P nl.length) := (cell_of_row w P.s 7 _ _ _ h.stall).trans rfl
theorem PutAt.room {w : World} {P : Pt} {nv : Value} {nl : List (Int × Int)} {st : St} (h : PutAt w P nv nl st) (j : Nat) (hj : j < 6) : w.cell? ⟨P.s, j, none⟩ = some (.int .i64 (st.room j)) := (cell_of_row w P.s j _ _ _ h.stall).trans (eight_get _ _ _ _ hj)
theorem PutAt.sfree {w : World} {P : Pt} {nv : Value} {nl : List (Int × Int)} {st : St} (h : PutAt w P nv nl st) (j : Nat) : w.frozen? ⟨P.s, j, none⟩ = false := frozen_of_row w P.s j _ _ h.stall
theorem KeepsFrom.set {B : Nat} {W W' : World} (h : KeepsFrom B W W') (a : Addr) (v : Value) (ha : a.block < B) : KeepsFrom B W (W'.setCell a v) :=
  h.trans ⟨by rw [size_set]; exact Nat.le_refl _, fun k o hB hk _ => (Below.heap_setCell _ _ _ _ (by omega)).trans hk⟩
theorem vals_lt {m : Nat} (l : List (Mem m)) : ∀ h ∈ vals l, h < 6 := by
  intro h hh
  obtain ⟨x, _, rfl⟩ := List.mem_map.1 hh
  exact x.2.1
def Post (P : Pt) (nv : Value) (nl : List (Int × Int)) (r : Bool × St) (w : World) (e : Ending) (w' : World) : Prop :=
  e = .returned (.bool r.1) ∧ PutAt w' P nv nl r.2 ∧ Kept P.s P.g P.b w w'
def roundP : List Nat := [1, 0, 1, 0, 1, 0, 1, 0]
end Go.Proofs.YtnhifinfjfpoiaaGreat

namespace Go
open Go
theorem Oper.wpIn_round {l N : Nat} {P : Program} {o : Oper} {a : Act} {w : World} {K : Act → World → Prop} {Q : Exit → Act → World → Prop} (hd : ∀ c, o.op ≠ .defer c) (h : o.wp P a w K Q) : o.wpIn (Fence.wide.inRound l) N P a w K Q := by
  refine ⟨fun _ _ => trivial, ?_⟩
  rw [Oper.semAt_eq _ _ _ hd]
  unfold Oper.wp at h
  generalize (execOp a.eval o).run P w = r at *
  cases r with
  | ok x w' =>
    cases x <;> simp only [Oper.upon, Oper.uponIn] at h ⊢ <;> first
      | exact h
      | exact ⟨fun h => (by cases h), CallsIn.inRound l (callsIn_wide.2 h)⟩
      | exact ⟨fun h => (by cases h), fun c cs _ => by obtain ⟨v, w', r, s⟩ := h c cs; exact ⟨v, w', r, stepsIn_wide.2 s⟩⟩
  | halt x w' => cases x <;> simp only [Oper.upon, Oper.uponIn] at h ⊢ <;> exact h
def noDefer (ops : Array Oper) : Bool := ops.toList.all fun o => match o.op with | .defer _ => false | _ => true
theorem noDefer_spec {ops : Array Oper} (h : noDefer ops = true) {i : Nat} {o : Oper} (hi : ops[i]? = some o) : ∀ c, o.op ≠ .defer c := by
  intro c hc
  have h1 := List.all_eq_true.1 h o (by rw [← Array.getElem?_toList] at hi; exact List.mem_of_getElem? hi)
  rw [hc] at h1
  cases h1
theorem wpOpIn_round {l N : Nat} {P : Program} {ops : Array Oper} {i : Nat} {a : Act} {w : World} {K : Act → World → Prop} {Q : Exit → Act → World → Prop} (hd : noDefer ops = true) (hL : ¬ LetsOut Q) (h : wpOp P ops Q i K a w) :
    wpOpIn (Fence.wide.inRound l) N P ops Q i K a w := by
  unfold wpOp at h
  unfold wpOpIn
  split
  · rename_i hn; simp only [hn] at h; exact h
  · rename_i o ho
    simp only [ho] at h
    split
    · rename_i hw
      rw [if_pos hw] at h
      rcases h with h | h
      · exact Oper.wpIn_round (noDefer_spec hd ho) h
      · exact absurd h.2 hL
    · rename_i hw
      rw [if_neg hw] at h
      exact ⟨fun _ _ => trivial, h⟩
theorem wpAnyIn_round {l N : Nat} {P : Program} {md : Region.Mode} {ops : Array Oper} {Q : Exit → Act → World → Prop} (hd : noDefer ops = true) (hL : ¬ LetsOut Q) : ∀ (f : Nat) (listed : Array Bool) (a : Act) (w : World), wpAny P md ops Q f listed a w → wpAnyIn (Fence.wide.inRound l) N P md ops Q f listed a w
  | 0, _, _, _, h => h
  | f + 1, _, _, _, h => ⟨h.1, fun i hi => wpOpIn_mono (fun a w h => wpAnyIn_round hd hL f _ a w h) (wpOpIn_round hd hL (h.2 i hi))⟩
theorem wpIn_region_still_tail {P : Program} {r N id : Nat} {Q : Exit → Act → World → Prop} {a : Act} {w : World} {l : List Oper} (n : Nat) (hm : P.follows .mixedOrders = true) (hB : Region.lexTailB .any l.toArray n = true) (hd : noDefer l.toArray = true) (hL : ¬ LetsOut Q)
    (h : wpStill P l.toArray { w with drawn := w.drawn + 1 } (fun a' => wpList P l.toArray Q (l.drop n) a' { w with drawn := w.drawn + 1 }) (l.take n) a) : (Code.region id l.toArray true).wpIn (Fence.wide.inRound r) N P Q a w := by
  simp only [Region.lexTailB, Bool.and_eq_true, decide_eq_true_eq] at hB
  obtain ⟨⟨⟨⟨hsel, hn⟩, hs⟩, hc⟩, hlex⟩ := hB
  have hn' : n < l.length := by simpa using hn
  have htl : (l.take n).length = n := by simp; omega
  have hdl : (l.drop n).length = l.toArray.size - n := by simp
  have inv0 : HeadInv .any l.toArray n (Array.replicate l.toArray.size false) :=
    ⟨by simp, fun j oj _ hl => (by rw [getD_replicate_false] at hl; cases hl), fun t _ ht => getD_in (by simpa using ht) (getD_replicate_false _ _)⟩
  have H := wpAnyL_lex (md := .any) (g := l.toArray.size - n) hsel hs hc hn (l.take n) 0 _ a (fun j hj => by
    have hj' : j < n := by rw [htl] at hj; exact hj
    simp [hj']) (by simpa using htl) inv0 (by rw [htl]; exact hlex) h
  refine wpIn_region_any hm (wpAnyIn_round hd hL _ _ _ _ ?_)
  have := wpAny_of_head (Q' := Q) (g := l.toArray.size - n) (fun listed a' hL => by
    have := wpAny_of_seq (md := .any) (Q' := Q) (l.drop n) n listed a' { w with drawn := w.drawn + 1 } (fun j => by simp [List.getElem?_drop]) (by rw [hdl]; exact hL.1) hL.2
    rwa [hdl] at this) _ _ _ H
  rw [htl, show n + (l.toArray.size - n) = l.toArray.size by omega] at this
  exact this
theorem then_of {F : Fence} {n : Nat} {P : Program} {x y : Code} {Q : Exit → Act → World → Prop} {K : Act → World → Prop} {a : Act} {w : World} (hK : ∀ a w, y.wpIn F n P Q a w → K a w) (h : x.wpIn F n P (Exit.then (y.wpIn F n P Q) Q) a w) :
    x.wpIn F n P (Exit.then K Q) a w := wpIn_mono h (by intro e a w h; cases e <;> first | exact hK _ _ h | exact h)
end Go

namespace Go.Proofs.YtnhifinfjfpoiaaGreat
open Go.RowKit
set_option linter.unusedVariables false
attribute [local go_sem] Oper.semAt_some
set_option maxRecDepth 100000 in
set_option maxHeartbeats 2000000 in
theorem try_room (P : Pt) (hP : P.Ok) (nv : Value) (nl : List (Int × Int)) (k : Nat) (hk : k < nl.length) (W : World) (st : St) (x kb rb l : Nat) (hx : x < 6) (hp : PutAt W P nv nl st) (hkb : Boxed W kb 3 (.int .i64 k)) (hrb : Boxed W rb 4 (.bool false))
    (k1 : kb ≠ P.s) (k2 : kb ≠ P.g) (k3 : kb ≠ P.b) (r1 : rb ≠ P.s) (r2 : rb ≠ P.g) (r3 : rb ≠ P.b) (hroom : 0 < st.room x) (u0 u2 u3 u7 u8 u9 u10 u11 u12 u13 u14 u15 u16 u17 u18 u19 u20 u21 u22 u23 u24 u25 u26 u27 u28 u29 u30 u31 u32 u33 u34 u35 u36 u37 u38 u39 u40 u41 u42 u43 u44 u45 u46 u47 u48 u49 u50 u51 u52 u53 u54 u55 u56 u57 u58 u59 u60 u61 u62 u63 u64 u65 u66 u67 u68 u69 u70 u71 u72 u73 u74 u75 u76 u77 u78 u79 u80 u81 u82 u83 u84 u85 u86 u87 u88 u89 u90 u91 u92 u93 u94 u95 u96 u97 u98 u99 u100 u101 : Value) (ds : List Deferred) (Q : Exit → Act → World → Prop) (hL : ¬ LetsOut Q)
    (hQ : ∀ a W', PutAt W' P nv nl ((st.room1 x).give k x) → Kept P.s P.g P.b W W' → Boxed W' rb 4 (.bool false) → Q .ret a (W'.setCell ⟨rb, 0, none⟩ (.bool true))) :
    (sub (roundP ++ [1, 1, 0, 1, 0, 0]) (bodyOf Tryz.f133)).wpIn (Fence.wide.inRound l) 7 Tryz.prog (Exit.then ((sub (roundP ++ [1, 1, 0, 1, 0, 1]) (bodyOf Tryz.f133)).wpIn (Fence.wide.inRound l) 7 Tryz.prog Q) Q) { tmps := #[u0, .pointer (some ⟨P.q, 0, none⟩), u2, u3, .pointer (some ⟨kb, 0, none⟩), .pointer (some ⟨rb, 0, none⟩), .int .i64 x, u7, u8, u9, u10, u11, u12, u13, u14, u15, u16, u17, u18, u19, u20, u21, u22, u23, u24, u25, u26, u27, u28, u29, u30, u31, u32, u33, u34, u35, u36, u37, u38, u39, u40, u41, u42, u43, u44, u45, u46, u47, u48, u49, u50, u51, u52, u53, u54, u55, u56, u57, u58, u59, u60, u61, u62, u63, u64, u65, u66, u67, u68, u69, u70, u71, u72, u73, u74, u75, u76, u77, u78, u79, u80, u81, u82, u83, u84, u85, u86, u87, u88, u89, u90, u91, u92, u93, u94, u95, u96, u97, u98, u99, u100, u101], defers := ds } W := by
  have hxi : (x : Int) < 6 := by omega
  have hki : (k : Int) < nl.length := by omega
  have c3 := hp.ptr.cell
  have c4 : W.cell? ⟨P.s, x, none⟩ = some (.int .i64 (st.room x)) := hp.room x hx
  have hfz := hp.sfree x
  have HP := Lib.hid hp
  have HX := Lib.hid (And.intro hkb hrb)
  have HQ := Lib.hid hQ
  clear hp hkb hrb hQ
  conv => arg 4; whnf
  refine wpIn_region_still_tail 10 (by kernel_rfl) (by kernel_rfl) (by kernel_rfl) (fun ⟨a, w, h⟩ => hL ⟨a, w, h⟩) ?_
  simp only [List.take_succ_cons, List.take_zero, List.drop_succ_cons, List.drop_zero]
  repeat still_step
  try refine wpStill_nil ?_
  change wpList _ _ _ _ _ W.drew
  go_wp2_with fail
  conv => arg 4; whnf
  obtain ⟨W6, hW6⟩ : ∃ W6, (W.setCell ⟨P.s, x, none⟩ (.int .i64 (wrap64 (st.room x - 1)))).drew = W6 := ⟨_, rfl⟩
  have p6 : PutAt W6 P nv nl (st.room1 x) := by rw [← hW6]; exact (HP.out.setR hP x (decW (st.room x)) hx).drew
  have k6 : Kept P.s P.g P.b W W6 := by rw [← hW6]; exact ((Kept.refl _ _ _ W).set ⟨P.s, x, none⟩ _ (.inl rfl)).drew
  rw [hW6]
  clear hW6 c3 c4 hfz
  have c3 := p6.ptr.cell
  have c4 := p6.gv
  unfold stallV at c4
  have c5 : W6.cell? ⟨P.g, k * 6 + x, none⟩ = some (.int .i64 (st.giv k x)) := p6.giv.cell k x hk hx
  have c6 := (k6.boxed HX.out.1 k1 k2 k3).cell
  have hfz := p6.giv.free (k * 6 + x)
  have HP6 := Lib.hid (And.intro p6 k6)
  clear p6 k6
  refine wpIn_seq ?_
  refine wpIn_region_still_tail 12 (by kernel_rfl) (by kernel_rfl) (by kernel_rfl) (fun ⟨a, w, h⟩ => hL ⟨a, w, h⟩) ?_
  simp only [List.take_succ_cons, List.take_zero, List.drop_succ_cons, List.drop_zero]
  repeat still_step
  try refine wpStill_nil ?_
  change wpList _ _ _ _ _ W6.drew
  go_wp2_with fail
  obtain ⟨W7, hW7⟩ : ∃ W7, (W6.setCell ⟨P.g, k * 6 + x, none⟩ (.int .i64 (wrap64 (st.giv k x + 1)))).drew = W7 := ⟨_, rfl⟩
  have p7 : PutAt W7 P nv nl ((st.room1 x).give k x) := by rw [← hW7]; exact (HP6.out.1.setG hP k x _ hk hx).drew
  have k7 : Kept P.s P.g P.b W W7 := by rw [← hW7]; exact (HP6.out.2.set ⟨P.g, _, none⟩ _ (.inr (.inl rfl))).drew
  rw [hW7]
  clear hW7 c3 c4 c5 c6 hfz
  have hr7 := k7.boxed HX.out.2 r1 r2 r3
  have HP7 := Lib.hid (And.intro p7 (And.intro k7 hr7))
  have c3 := hr7.cell
  have c4 := hr7.frozen
  clear p7 k7 hr7
  gi_wp2_with fail
  exact HQ.out _ _ HP7.out.1 HP7.out.2.1 HP7.out.2.2
end Go.Proofs.YtnhifinfjfpoiaaGreat

namespace Go.Proofs.YtnhifinfjfpoiaaGreat
open Go.RowKit
set_option linter.unusedVariables false
attribute [local go_sem] Oper.semAt_some
set_option maxRecDepth 100000 in
set_option maxHeartbeats 2000000 in
theorem try_hit (P : Pt) (hP : P.Ok) (nv : Value) (nl : List (Int × Int)) (k o : Nat) (hk : k < nl.length) (ho : o < nl.length) (W : World) (st : St) (x kb rb l : Nat) (hx : x < 6) (hp : PutAt W P nv nl st) (hkb : Boxed W kb 3 (.int .i64 k)) (hrb : Boxed W rb 4 (.bool false))
    (k1 : kb ≠ P.s) (k2 : kb ≠ P.g) (k3 : kb ≠ P.b) (r1 : rb ≠ P.s) (r2 : rb ≠ P.g) (r3 : rb ≠ P.b) (u0 u2 u3 u8 u9 u10 u11 u12 u13 u14 u15 u16 u17 u18 u19 u20 u21 u22 u23 u24 u25 u26 u27 u28 u29 u30 u31 u32 u33 u34 u35 u36 u37 u38 u39 u40 u41 u42 u43 u44 u45 u46 u47 u48 u49 u50 u51 u52 u53 u54 u55 u56 u57 u58 u59 u60 u61 u62 u63 u64 u65 u66 u67 u68 u69 u70 u71 u72 u73 u74 u75 u76 u77 u78 u79 u80 u81 u82 u83 u84 u85 u86 u87 u88 u89 u90 u91 u92 u93 u94 u95 u96 u97 u98 u99 u100 u101 : Value) (ds : List Deferred) (Q : Exit → Act → World → Prop) (hL : ¬ LetsOut Q)
    (hQ : ∀ a W', PutAt W' P nv nl ((st.back o x).give k x) → Kept P.s P.g P.b W W' → Boxed W' rb 4 (.bool false) → Q .ret a (W'.setCell ⟨rb, 0, none⟩ (.bool true))) :
    (sub (roundP ++ [1, 1, 1, 1, 0, 0, 1, 1, 0, 0, 1, 1, 0, 0]) (bodyOf Tryz.f133)).wpIn (Fence.wide.inRound l) 7 Tryz.prog (Exit.then ((sub (roundP ++ [1, 1, 1, 1, 0, 0, 1, 1, 0, 0, 1, 1, 0, 1]) (bodyOf Tryz.f133)).wpIn (Fence.wide.inRound l) 7 Tryz.prog Q) Q) { tmps := #[u0, .pointer (some ⟨P.q, 0, none⟩), u2, u3, .pointer (some ⟨kb, 0, none⟩), .pointer (some ⟨rb, 0, none⟩), .int .i64 x, .int .i64 o, u8, u9, u10, u11, u12, u13, u14, u15, u16, u17, u18, u19, u20, u21, u22, u23, u24, u25, u26, u27, u28, u29, u30, u31, u32, u33, u34, u35, u36, u37, u38, u39, u40, u41, u42, u43, u44, u45, u46, u47, u48, u49, u50, u51, u52, u53, u54, u55, u56, u57, u58, u59, u60, u61, u62, u63, u64, u65, u66, u67, u68, u69, u70, u71, u72, u73, u74, u75, u76, u77, u78, u79, u80, u81, u82, u83, u84, u85, u86, u87, u88, u89, u90, u91, u92, u93, u94, u95, u96, u97, u98, u99, u100, u101], defers := ds } W := by
  have hxi : (x : Int) < 6 := by omega
  have hki : (k : Int) < nl.length := by omega
  have c3 := hp.ptr.cell
  have hoi : (o : Int) < nl.length := by omega
  have c4 := hp.gv
  unfold stallV at c4
  have c5 : W.cell? ⟨P.g, o * 6 + x, none⟩ = some (.int .i64 (st.giv o x)) := hp.giv.cell o x ho hx
  have hfz := hp.giv.free (o * 6 + x)
  have HP := Lib.hid hp
  have HX := Lib.hid (And.intro hkb hrb)
  have HQ := Lib.hid hQ
  clear hp hkb hrb hQ
  conv => arg 4; whnf
  refine wpIn_region_still_tail 12 (by kernel_rfl) (by kernel_rfl) (by kernel_rfl) (fun ⟨a, w, h⟩ => hL ⟨a, w, h⟩) ?_
  simp only [List.take_succ_cons, List.take_zero, List.drop_succ_cons, List.drop_zero]
  repeat still_step
  try refine wpStill_nil ?_
  change wpList _ _ _ _ _ W.drew
  go_wp2_with fail
  conv => arg 4; whnf
  obtain ⟨W6, hW6⟩ : ∃ W6, (W.setCell ⟨P.g, o * 6 + x, none⟩ (.int .i64 (wrap64 (st.giv o x - 1)))).drew = W6 := ⟨_, rfl⟩
  have p6 : PutAt W6 P nv nl (st.back o x) := by rw [← hW6]; exact (HP.out.setG hP o x (decW (st.giv o x)) ho hx).drew
  have k6 : Kept P.s P.g P.b W W6 := by rw [← hW6]; exact ((Kept.refl _ _ _ W).set ⟨P.g, _, none⟩ _ (.inr (.inl rfl))).drew
  rw [hW6]
  clear hW6 c3 c4 c5 hfz
  have c3 := p6.ptr.cell
  have c4 := p6.gv
  unfold stallV at c4
  have c5 : W6.cell? ⟨P.g, k * 6 + x, none⟩ = some (.int .i64 ((st.back o x).giv k x)) := p6.giv.cell k x hk hx
  have c6 := (k6.boxed HX.out.1 k1 k2 k3).cell
  have hfz := p6.giv.free (k * 6 + x)
  have HP6 := Lib.hid (And.intro p6 k6)
  clear p6 k6
  refine wpIn_seq ?_
  refine wpIn_region_still_tail 12 (by kernel_rfl) (by kernel_rfl) (by kernel_rfl) (fun ⟨a, w, h⟩ => hL ⟨a, w, h⟩) ?_
  simp only [List.take_succ_cons, List.take_zero, List.drop_succ_cons, List.drop_zero]
  repeat still_step
  try refine wpStill_nil ?_
  change wpList _ _ _ _ _ W6.drew
  go_wp2_with fail
  obtain ⟨W7, hW7⟩ : ∃ W7, (W6.setCell ⟨P.g, k * 6 + x, none⟩ (.int .i64 (wrap64 ((st.back o x).giv k x + 1)))).drew = W7 := ⟨_, rfl⟩
  have p7 : PutAt W7 P nv nl ((st.back o x).give k x) := by rw [← hW7]; exact (HP6.out.1.setG hP k x _ hk hx).drew
  have k7 : Kept P.s P.g P.b W W7 := by rw [← hW7]; exact (HP6.out.2.set ⟨P.g, _, none⟩ _ (.inr (.inl rfl))).drew
  rw [hW7]
  clear hW7 c3 c4 c5 c6 hfz
  have hr7 := k7.boxed HX.out.2 r1 r2 r3
  have HP7 := Lib.hid (And.intro p7 (And.intro k7 hr7))
  have c3 := hr7.cell
  have c4 := hr7.frozen
  clear p7 k7 hr7
  gi_wp2_with fail
  exact HQ.out _ _ HP7.out.1 HP7.out.2.1 HP7.out.2.2
end Go.Proofs.YtnhifinfjfpoiaaGreat

namespace Go.Proofs.YtnhifinfjfpoiaaGreat
open Go.RowKit
set_option linter.unusedVariables false
attribute [local go_sem] Oper.semAt_some
theorem tryO_upto {rec : Nat → St → Bool × St} {k h o K : Nat} {s s' : St} (ho : o < K) (e : tryO rec k h (List.range (o + 1)) s = (true, s')) : tryO rec k h (List.range K) s = (true, s') := by
  have h1 : List.range K = List.range (o + 1) ++ (List.range K).drop (o + 1) := by
    conv => lhs; rw [← List.take_append_drop (o + 1) (List.range K)]
    rw [List.take_range, Nat.min_eq_left (by omega)]
  rw [h1]
  exact tryO_app_yes _ _ _ _ _ _ _ e
set_option maxRecDepth 100000 in
set_option maxHeartbeats 2000000 in
theorem try_step (P : Pt) (hP : P.Ok) (nv : Value) (nl : List (Int × Int)) (n : Nat)
    (IH : ∀ (o : Nat) (st : St) (w : World), PutAt w P nv nl st → untried st.t < n → o < nl.length →
      Calls Tryz.prog 133 #[.int .i64 o, .pointer (some ⟨P.q, 0, none⟩), .pointer (some ⟨P.b, 0, none⟩), .pointer (some ⟨P.y, 0, none⟩)] w (Post P nv nl (tryF (frm nl) nl.length n o st) w))
    (k : Nat) (hk : k < nl.length) (W : World) (st : St) (x kb rb l : Nat) (hx : x < 6) (hp : PutAt W P nv nl st) (hkb : Boxed W kb 3 (.int .i64 k)) (hrb : Boxed W rb 4 (.bool false))
    (k1 : kb ≠ P.s) (k2 : kb ≠ P.g) (k3 : kb ≠ P.b) (r1 : rb ≠ P.s) (r2 : rb ≠ P.g) (r3 : rb ≠ P.b) (hu : untried st.t < n) (u0 u2 u7 u8 u9 u10 u11 u12 u13 u14 u15 u16 u17 u18 u19 u20 u21 u22 u23 u24 u25 u26 u27 u28 u29 u30 u31 u32 u33 u34 u35 u36 u37 u38 u39 u40 u41 u42 u43 u44 u45 u46 u47 u48 u49 u50 u51 u52 u53 u54 u55 u56 u57 u58 u59 u60 u61 u62 u63 u64 u65 u66 u67 u68 u69 u70 u71 u72 u73 u74 u75 u76 u77 u78 u79 u80 u81 u82 u83 u84 u85 u86 u87 u88 u89 u90 u91 u92 u93 u94 u95 u96 u97 u98 u99 u100 u101 : Value) (ds : List Deferred) (Q : Exit → Act → World → Prop) (hL : ¬ LetsOut Q)
    (hroom : 0 < st.room x → ∀ a W', PutAt W' P nv nl ((st.room1 x).give k x) → Kept P.s P.g P.b W W' → Boxed W' rb 4 (.bool false) → Q .ret a (W'.setCell ⟨rb, 0, none⟩ (.bool true)))
    (hno : ¬ 0 < st.room x → ∀ a W' s', PutAt W' P nv nl s' → Kept P.s P.g P.b W W' → tryO (tryF (frm nl) nl.length n) k x (List.range nl.length) st = (false, s') → Q .normal a W')
    (hyes : ¬ 0 < st.room x → ∀ a W' s', PutAt W' P nv nl s' → Kept P.s P.g P.b W W' → Boxed W' rb 4 (.bool false) → tryO (tryF (frm nl) nl.length n) k x (List.range nl.length) st = (true, s') → Q .ret a (W'.setCell ⟨rb, 0, none⟩ (.bool true))) :
    (sub (roundP ++ [1, 1]) (bodyOf Tryz.f133)).wpIn (Fence.wide.inRound l) 7 Tryz.prog Q { tmps := #[u0, .pointer (some ⟨P.q, 0, none⟩), u2, .pointer (some ⟨P.y, 0, none⟩), .pointer (some ⟨kb, 0, none⟩), .pointer (some ⟨rb, 0, none⟩), .int .i64 x, u7, u8, u9, u10, u11, u12, u13, u14, u15, u16, u17, u18, u19, u20, u21, u22, u23, u24, u25, u26, u27, u28, u29, u30, u31, u32, u33, u34, u35, u36, u37, u38, u39, u40, u41, u42, u43, u44, u45, u46, u47, u48, u49, u50, u51, u52, u53, u54, u55, u56, u57, u58, u59, u60, u61, u62, u63, u64, u65, u66, u67, u68, u69, u70, u71, u72, u73, u74, u75, u76, u77, u78, u79, u80, u81, u82, u83, u84, u85, u86, u87, u88, u89, u90, u91, u92, u93, u94, u95, u96, u97, u98, u99, u100, u101], defers := ds } W := by
  have hxi : (x : Int) < 6 := by omega
  have c3 := hp.ptr.cell
  have c4 : W.cell? ⟨P.s, x, none⟩ = some (.int .i64 (st.room x)) := hp.room x hx
  by_cases hr : 0 < st.room x
  · have HR := Lib.hid (hroom hr); have HP := Lib.hid hp; have HX := Lib.hid (And.intro hkb hrb)
    clear IH hp hkb hrb hno hyes hu hroom
    conv => arg 4; whnf
    gi_wp2_with fail
    rename_i KX hKX
    refine then_of hKX (try_room P hP nv nl k hk W st x kb rb l hx HP.out HX.out.1 HX.out.2 k1 k2 k3 r1 r2 r3 hr _ _ _ _ _ _ _ _ _ _ _ _ _ _ _ _ _ _ _ _ _ _ _ _ _ _ _ _ _ _ _ _ _ _ _ _ _ _ _ _ _ _ _ _ _ _ _ _ _ _ _ _ _ _ _ _ _ _ _ _ _ _ _ _ _ _ _ _ _ _ _ _ _ _ _ _ _ _ _ _ _ _ _ _ _ _ _ _ _ _ _ _ _ _ _ _ _ _ ds _ ?_ ?_)
    · exact fun ⟨a, w, h⟩ => hL ⟨a, w, h⟩
    · exact HR.out
  obtain ⟨an, cn, e, n0, n2, n3⟩ := hp.needs.open
  have c5 := hp.nv
  rw [e] at c5
  have HIH := Lib.hid IH; have HP := Lib.hid hp
  have HX := Lib.hid (And.intro hkb hrb)
  have HN := Lib.hid (hno hr); have HY := Lib.hid (hyes hr); have HU := Lib.hid hu
  clear IH hp hkb hrb hno hyes n3 hu hroom
  conv => arg 4; whnf
  gi_wp2_with fail
  gi_loopw [59] (fun i wr => ∃ (o : Nat), o ≤ nl.length ∧ i = .int .i64 o ∧ Hid (∃ s2, PutAt wr P nv nl s2 ∧ tryO (tryF (frm nl) nl.length n) k x (List.range o) st = (false, s2) ∧ Kept P.s P.g P.b W wr)) (fun i _ => nl.length - (intOf i).toNat)
  case atStart => exact ⟨0, by omega, rfl, ⟨_, HP.out, rfl, Kept.refl _ _ _ _⟩⟩
  case round =>
    clear c3 c4 c5
    obtain ⟨o, ho, rfl, hs⟩ := hrel
    by_cases hlt : o < nl.length
    · obtain ⟨s2, q1, q2, q3⟩ := hs.out
      have hoi : (o : Int) < nl.length := by omega
      have c3 := q1.ptr.cell
      have c4 := q1.gv
      unfold stallV at c4
      have c5 := q1.giv.cell o x hlt hx
      by_cases hg : 0 < s2.giv o x
      · have c6 := q1.self.cell
        have hu : untried s2.t < n := by
          have h2 := tryO_sub (tryF_sub (frm nl) nl.length n) k x (List.range o) st
          rw [q2] at h2
          have h3 : untried s2.t ≤ untried st.t := untried_le (h2 HP.out.t6).2
          have h4 := HU.out
          omega
        have HU2 := Lib.hid hu
        have HQ := Lib.hid (And.intro q1 (And.intro q2 q3))
        clear hs q1 q2 q3 hu
        cases hrec : tryF (frm nl) nl.length n o s2 with
        | mk b s3 =>
        have HR := Lib.hid hrec
        clear hrec
        cases b
        · gi_wp2_with (refine ⟨trivial, ?_⟩; gi_at_call 133; refine (CallsIn.inRound l (callsIn_wide.2 (HIH.out o s2 _ HQ.out.1 HU2.out hlt))).mono ?_; unfold Post; rw [HR.out]; rintro e w5 ⟨rfl, q4, q5⟩; clear c3 c4 c5 c6; dsimp only at q4 ⊢)
          have HQ5 := Lib.hid (And.intro q4 q5); clear q4 q5
          gi_wp2_with fail
          go_roundw
          case rel => exact ⟨o + 1, by omega, by go_num, ⟨s3, HQ5.out.1, by rw [List.range_succ]; exact tryO_miss HQ.out.2.1 hg HR.out, HQ.out.2.2.trans HQ5.out.2⟩⟩
          case measure => simp [intOf]; omega
        · gi_wp2_with (refine ⟨trivial, ?_⟩; gi_at_call 133; refine (CallsIn.inRound l (callsIn_wide.2 (HIH.out o s2 _ HQ.out.1 HU2.out hlt))).mono ?_; unfold Post; rw [HR.out]; rintro e w5 ⟨rfl, q4, q5⟩; clear c3 c4 c5 c6; dsimp only at q4 ⊢)
          have HQ5 := Lib.hid (And.intro q4 q5); clear q4 q5
          rename_i KX hKX
          refine then_of hKX (try_hit P hP nv nl k o hk hlt w5 s3 x kb rb l hx HQ5.out.1 (HQ5.out.2.boxed (HQ.out.2.2.boxed HX.out.1 k1 k2 k3) k1 k2 k3) (HQ5.out.2.boxed (HQ.out.2.2.boxed HX.out.2 r1 r2 r3) r1 r2 r3) k1 k2 k3 r1 r2 r3 _ _ _ _ _ _ _ _ _ _ _ _ _ _ _ _ _ _ _ _ _ _ _ _ _ _ _ _ _ _ _ _ _ _ _ _ _ _ _ _ _ _ _ _ _ _ _ _ _ _ _ _ _ _ _ _ _ _ _ _ _ _ _ _ _ _ _ _ _ _ _ _ _ _ _ _ _ _ _ _ _ _ _ _ _ _ _ _ _ _ _ _ _ _ _ _ _ ds _ ?_ ?_)
          · exact fun ⟨a, w, h⟩ => hL ⟨a, w, h⟩
          intro a W' p6 k6 b6
          exact HY.out a W' _ p6 ((HQ.out.2.2.trans HQ5.out.2).trans k6) b6 (tryO_upto hlt (by rw [List.range_succ]; exact tryO_hit HQ.out.2.1 hg HR.out))
      · have HG0 : Hid (s2.giv o x ≤ 0) := Lib.hid (Int.not_lt.1 hg)
        clear hs
        have HQ := Lib.hid (And.intro q1 (And.intro q2 q3))
        clear q1 q2 q3
        gi_wp2_with fail
        refine ⟨fun _ h => (by cases h), ?_⟩
        gi_wp2_with fail
        go_roundw
        case rel => exact ⟨o + 1, by omega, by go_num, ⟨s2, HQ.out.1, by rw [List.range_succ]; exact tryO_skip HQ.out.2.1 (Int.not_lt.2 HG0.out), HQ.out.2.2⟩⟩
        case measure => simp [intOf]; omega
    · obtain rfl : o = nl.length := by omega
      obtain ⟨s2, q1, q2, q3⟩ := hs.out
      have HQ := Lib.hid (And.intro q1 (And.intro q2 q3))
      clear hs q1 q2 q3
      gi_wp2_with fail
      exact HN.out _ _ s2 HQ.out.1 HQ.out.2.2 HQ.out.2.1
end Go.Proofs.YtnhifinfjfpoiaaGreat

namespace Go.Proofs.YtnhifinfjfpoiaaGreat
open Go.RowKit
set_option linter.unusedVariables false
attribute [local go_sem] Oper.semAt_some

set_option maxRecDepth 100000 in
set_option maxHeartbeats 4000000 in
theorem try_any (P : Pt) (hP : P.Ok) (nv : Value) (nl : List (Int × Int)) (hnl : FrmOk nl) : ∀ (n k : Nat) (st : St) (w : World), PutAt w P nv nl st → untried st.t < n → k < nl.length →
    Calls Tryz.prog 133 #[.int .i64 k, .pointer (some ⟨P.q, 0, none⟩), .pointer (some ⟨P.b, 0, none⟩), .pointer (some ⟨P.y, 0, none⟩)] w (Post P nv nl (tryF (frm nl) nl.length n k st) w)
  | 0, k, st, w, h, hu, hk => absurd hu (Nat.not_lt_zero _)
  | n + 1, k, st, w, h, hu, hk => by
    have IH := try_any P hP nv nl hnl n
    obtain ⟨hf1, hf2⟩ := hnl k hk
    have hb2 : Below w.heap.size w ((w.alloc (.cells #[.int .i64 k] 3)).alloc (.cells #[.bool false] 4)) := ((Below.refl _ w).alloc (Nat.le_refl _) _).alloc (by simp) _
    have h2 := h.below hb2 (Nat.le_refl _)
    have c1 := h2.ptr.cell
    have c2 := h2.nv
    obtain ⟨an, cn, e, _, n2, n3⟩ := h2.needs.open
    obtain ⟨bn, offn, ean, hbn, d1, d2⟩ := n3 k hk
    rw [hf1] at d2
    rw [e, ean] at c2
    have HH := Lib.hid h; have HB2 := Lib.hid hb2; have HNL := Lib.hid hnl; have HIH := Lib.hid IH; have HF := Lib.hid (And.intro hf1 hf2)
    clear n3 h hb2 h2 hnl IH
    refine (callsIn_wide (n := 9)).1 ?_
    refine callsIn_of_wp_marks Tryz.func133 rfl trivial ?_ rfl
    simp only [Tryz.ntmps133, List.size_toArray, List.length_cons, List.length_nil, Nat.reduceAdd, Nat.reduceSub, Array.replicate_succ, Array.replicate_zero, List.push_toArray, List.append_toArray, List.nil_append, List.cons_append]
    gi_wp2_with fail
    refine wpIn_wide.2 (wp_scope_straight ((wpIn_wide (n := 9)).1 ?_))
    refine wpIn_seq (wpIn_label ?_)
    gi_wp2_with fail
    refine wpIn_wide.2 ?_
    obtain ⟨W2, hW2⟩ : ∃ W2, (w.alloc (.cells #[.int .i64 k] 3)).alloc (.cells #[.bool false] 4) = W2 := ⟨_, rfl⟩
    have e4 : Boxed W2 w.heap.size 3 (.int .i64 k) := by rw [← hW2]; exact (Boxed.new w _ _).alloc _
    have e5 : Boxed W2 (w.heap.size + 1) 4 (.bool false) := by rw [← hW2]; have := Boxed.new (w.alloc (.cells #[.int .i64 k] 3)) 4 (.bool false); simp only [World.size_alloc] at this; exact this
    have hs2 : W2.heap.size = w.heap.size + 2 := by rw [← hW2]; simp
    rw [hW2] at c1 c2 d1 d2 HB2 ⊢
    have HX2 := Lib.hid (And.intro e4 (And.intro e5 hs2))
    have e4c := e4.cell
    clear hW2 e4 e5 hs2
    go_still_tail 8, (by kernel_rfl)
    change wpList _ _ _ _ _ W2.drew
    go_wp2_with (go_at_call 54; refine (houses_any _ _).mono ?_; rintro e w' ⟨rfl, rfl⟩)
    refine wpIn_block ?_
    obtain ⟨W4, hW4⟩ : ∃ W4, (W2.alloc (.cells #[.int .i64 (frm nl k)] 81)).drew = W4 := ⟨_, rfl⟩
    have hit4 : Boxed W4 W2.heap.size 81 (.int .i64 (frm nl k)) := by rw [← hW4]; exact Boxed.new W2 _ _
    have hb4 : Below W2.heap.size W2 W4 := by rw [← hW4]; exact ((Below.refl _ W2).alloc (Nat.le_refl _) _).drew
    have hs4 : W4.heap.size = W2.heap.size + 1 := by rw [← hW4]; simp
    have hs2 := HX2.out.2.2
    rw [hW4]
    clear hW4 c1 c2 d1 d2 e4c
    have hw4 : Below w.heap.size w W4 := HB2.out.trans (hb4.mono (by omega))
    have hlt := HH.out.lt
    have h4 : PutAt W4 P nv nl st := HH.out.keep hw4 hlt
    have hk4 : Boxed W4 w.heap.size 3 (.int .i64 k) := (hb4.block _ (by omega)).trans HX2.out.1
    have hr4 : Boxed W4 (w.heap.size + 1) 4 (.bool false) := (hb4.block _ (by omega)).trans HX2.out.2.1
    have HF4 := Lib.hid (And.intro hit4 (And.intro hw4 (And.intro h4 (And.intro hk4 hr4))))
    have l4 : P.Lt W4.heap.size := hlt.mono (by omega)
    have HLT := Lib.hid hlt
    obtain ⟨l1, l2, l3, l5, l6, l7⟩ := hlt
    clear hit4 hw4 h4 hk4 hr4 hb4
    have hfl : frm nl k < 64 := HF.out.2
    have m1 : W2.heap.size < W4.heap.size := by omega
    have m2 : w.heap.size + 2 ≤ W2.heap.size := by omega
    clear hs2 hs4
    refine wpIn_rangeFunc_ownG rfl (by decide) (gf := 101) (lb := #[.pointer (some ⟨W2.heap.size, 0, none⟩)]) rfl trivial Tryz.call101
      (houses_stops Fence.wide 8 (frm nl k) hfl trivial trivial rfl (by decide) W2.heap.size (fun A B => B.cell? ⟨W2.heap.size, 0, none⟩ = A.cell? ⟨W2.heap.size, 0, none⟩) (fun A B h => h) W4 (by omega) HF4.out.1.cell)
      (fun h k => k.trans h) (fun W l o o' hl ho hc _ => ?kb) (Below.refl _ _) (fun _ => rfl)
      (fun pre W => (∃ s', PutAt W P nv nl s' ∧ tryH (tryF (frm nl) nl.length n) nl.length k (vals pre) st = (false, s')) ∧ Kept P.s P.g P.b W4 W)
      (fun c pre W => c = Code.ret ∧ (∃ s', PutAt W P nv nl s' ∧ tryH (tryF (frm nl) nl.length n) nl.length k (vals pre) st = (true, s')) ∧ Kept P.s P.g P.b w W ∧ Boxed W (w.heap.size + 1) 4 (.bool true) ∧ W4.heap.size ≤ W.heap.size) ?hI ?hIx ?h0
      (fun x => { tmps := #[.int .i64 k, .pointer (some ⟨P.q, 0, none⟩), .pointer (some ⟨P.b, 0, none⟩), .pointer (some ⟨P.y, 0, none⟩), .pointer (some ⟨w.heap.size, 0, none⟩), .pointer (some ⟨w.heap.size + 1, 0, none⟩), .int .i64 x.1, undef, .pointer (some ⟨P.s, 0, none⟩), .pointer (some ⟨P.s, 0, none⟩), .pointer (some ⟨P.s, 6, none⟩), .slice (some ⟨bn, offn, none⟩) nl.length cn, .int .i64 k, .pointer (some ⟨bn, offn + k * 2, none⟩), .pointer (some ⟨bn, offn + k * 2 + 1, none⟩), .int .i64 (frm nl k), .func (.func 101) #[] #[.pointer (some ⟨W2.heap.size, 0, none⟩)], .int .i64 x.1, undef, undef, undef, undef, undef, undef, undef, undef, undef, undef, undef, undef, undef, undef, undef, undef, undef, undef, undef, undef, undef, undef, undef, undef, undef, undef, undef, undef, undef, undef, undef, undef, undef, undef, undef, undef, undef, undef, undef, undef, undef, undef, undef, undef, undef, undef, undef, undef, undef, undef, undef, undef, undef, undef, undef, undef, undef, undef, undef, undef, undef, undef, undef, undef, undef, undef, undef, undef, undef, undef, undef, undef, undef, undef, undef, undef, undef, undef, undef, undef, undef, undef, undef, undef], defers := [] }) ?assign ?body ?done ?stop
    case kb =>
      show (W.putObj l o').cell? _ = _
      have hne : W2.heap.size ≠ l := by omega
      exact World.cell?_of_block (w := W) (World.putObj_heap_other hne)
    case hI =>
      refine ownFrom_of_below (fun s W h => h.2.size) ?_
      rintro s W W' hb ⟨⟨s', g1, g2⟩, g3⟩
      exact ⟨⟨s', g1.keep hb l4, g2⟩, g3.onto hb (Nat.le_refl _)⟩
    case hIx =>
      intro c
      refine ownFrom_of_below (fun s W h => h.2.2.2.2) ?_
      rintro s W W' hb ⟨g0, ⟨s', g1, g2⟩, g3, g4, g5⟩
      exact ⟨g0, ⟨s', g1.keep hb l4, g2⟩, g3.onto hb (by omega), (hb.block _ (by omega)).trans g4, Nat.le_trans g5 hb.size⟩
    case h0 => exact ⟨⟨st, HF4.out.2.2.1, rfl⟩, Kept.refl _ _ _ _⟩
    case assign =>
      intro l x W K hK
      gi_wp2
      exact hK
    case body =>
      rintro l pre x W ⟨⟨s', g1, g2⟩, g3⟩ hlen
      have l1' : P.s < W4.heap.size := by omega
      have l2' : P.g < W4.heap.size := by omega
      have l3' : P.b < W4.heap.size := by omega
      have hx6 := x.2.1
      have HV6 := Lib.hid (vals_lt pre)
      have hx6i : ((x.1 : Nat) : Int) < 6 := by omega
      have c1 := g1.tried.cell
      have ht6 := g1.t6
      have HG := Lib.hid (And.intro g1 (And.intro g2 g3))
      clear g1 g2 g3
      cases hbit : s'.t.testBit x.1
      · have HBT := Lib.hid hbit
        have hor := bits_orN ht6 (pw_lt hx6)
        have hwp := wrap_pw hx6
        have hfz := (frozen_of_row W P.b 0 _ _ HG.out.1.tried)
        clear hbit
        gi_wp2_with (refine ⟨trivial, ?_⟩; gi_at_call 96; refine (CallsIn.inRound l (hasIn_any Fence.wide _ s'.t x.1 trivial rfl _ ht6 hx6 HBT.out)).mono ?_; rintro e w5 ⟨rfl, rfl⟩)
        rename_i KX hKX
        refine then_of hKX ?_
        refine wpIn_region_still_tail 4 (by kernel_rfl) (by kernel_rfl) (by kernel_rfl) (fun ⟨a, w, h⟩ => h) ?_
        simp only [List.take_succ_cons, List.take_zero, List.drop_succ_cons, List.drop_zero]
        repeat still_step
        try refine wpStill_nil ?_
        change wpList _ _ _ _ _ W.drew
        go_wp2_with fail
        obtain ⟨W5, hW5⟩ : ∃ W5, (W.setCell ⟨P.b, 0, none⟩ (.int .i64 (orN s'.t (pw x.1)))).drew = W5 := ⟨_, rfl⟩
        have p5 : PutAt W5 P nv nl (s'.tick x.1) := by rw [← hW5]; exact (HG.out.1.setT hP x.1 hx6).drew
        have k5 : Kept P.s P.g P.b W W5 := by rw [← hW5]; exact ((Kept.refl P.s P.g P.b W).set ⟨P.b, 0, none⟩ _ (.inr (.inr (.inl rfl)))).drew
        rw [hW5]
        clear hW5
        have hu5 : untried (s'.tick x.1).t < n := by
          have := untried_tick (a := s'.t) hx6 HBT.out
          have h2 := tryH_sub (tryF_sub (frm nl) nl.length n) nl.length k (vals pre) st HV6.out
          rw [HG.out.2.1] at h2
          have h3 : untried s'.t ≤ untried st.t := untried_le (h2 HH.out.t6).2
          show untried (orN s'.t (pw x.1)) < n
          omega
        have b1 : Boxed W5 w.heap.size 3 (.int .i64 k) := (HG.out.2.2.trans k5).boxed HF4.out.2.2.2.1 (by omega) (by omega) (by omega)
        have b2 : Boxed W5 (w.heap.size + 1) 4 (.bool false) := (HG.out.2.2.trans k5).boxed HF4.out.2.2.2.2 (by omega) (by omega) (by omega)
        have HP5 := Lib.hid (And.intro p5 k5)
        refine try_step P hP nv nl n HIH.out k hk W5 (s'.tick x.1) x.1 w.heap.size (w.heap.size + 1) l hx6 p5 b1 b2 (by omega) (by omega) (by omega) (by omega) (by omega) (by omega) hu5 _ _ _ _ _ _ _ _ _ _ _ _ _ _ _ _ _ _ _ _ _ _ _ _ _ _ _ _ _ _ _ _ _ _ _ _ _ _ _ _ _ _ _ _ _ _ _ _ _ _ _ _ _ _ _ _ _ _ _ _ _ _ _ _ _ _ _ _ _ _ _ _ _ _ _ _ _ _ _ _ _ _ _ _ _ _ _ _ _ _ _ _ _ _ _ _ _ [] _ ?_ ?_ ?_ ?_
        · exact fun ⟨a, w, h⟩ => h
        · intro hroom a W' p6 k6 b6
          refine ⟨KeepsFrom.set ((k5.trans k6).keeps l1' l2' l3') _ _ (show w.heap.size + 1 < _ by omega), rfl, ⟨_, p6.keep ((Below.refl (w.heap.size + 1) W').setCell (p := ⟨w.heap.size + 1, 0, none⟩) (Nat.le_refl _) _) (HLT.out.mono (by omega)), by rw [vals_snoc]; exact tryH_room HG.out.2.1 HBT.out hroom⟩, ?_, heap_setCell_same W' _ _ _ _ _ b6, by rw [size_set]; exact (HG.out.2.2.trans (k5.trans k6)).size⟩
          exact ((Kept.of HF4.out.2.1).trans (HG.out.2.2.trans (k5.trans k6))).set _ _ (.inr (.inr (.inr (show w.heap.size ≤ w.heap.size + 1 by omega))))
        · intro hroom a W' s2 p6 k6 e6
          refine ⟨(k5.trans k6).keeps l1' l2' l3', ?_, ⟨s2, p6, by rw [vals_snoc]; exact tryH_miss HG.out.2.1 HBT.out hroom e6⟩, HG.out.2.2.trans (k5.trans k6)⟩
          have hsz := HG.out.2.2.size
          exact (k5.trans k6).cell (p := ⟨W2.heap.size, 0, none⟩) (by simp; omega) (by simp; omega) (by simp; omega) (by simp; omega)
        · intro hroom a W' s2 p6 k6 b6 e6
          refine ⟨KeepsFrom.set ((k5.trans k6).keeps l1' l2' l3') _ _ (show w.heap.size + 1 < _ by omega), rfl, ⟨_, p6.keep ((Below.refl (w.heap.size + 1) W').setCell (p := ⟨w.heap.size + 1, 0, none⟩) (Nat.le_refl _) _) (HLT.out.mono (by omega)), by rw [vals_snoc]; exact tryH_hit HG.out.2.1 HBT.out hroom e6⟩, ?_, heap_setCell_same W' _ _ _ _ _ b6, by rw [size_set]; exact (HG.out.2.2.trans (k5.trans k6)).size⟩
          exact ((Kept.of HF4.out.2.1).trans (HG.out.2.2.trans (k5.trans k6))).set _ _ (.inr (.inr (.inr (show w.heap.size ≤ w.heap.size + 1 by omega))))
      · have HBT := Lib.hid hbit
        clear hbit
        gi_wp2_with (refine ⟨trivial, ?_⟩; gi_at_call 96; refine (CallsIn.inRound l (hasIn_any Fence.wide _ s'.t x.1 trivial rfl _ ht6 hx6 HBT.out)).mono ?_; rintro e w5 ⟨rfl, rfl⟩)
        exact ⟨KeepsFrom.refl _ _, rfl, ⟨s', HG.out.1, by rw [vals_snoc]; exact tryH_skip HG.out.2.1 HBT.out⟩, HG.out.2.2⟩
    case done =>
      rintro D ys W hD hys ⟨⟨s', g1, g2⟩, g3⟩ hK
      have hr := g3.boxed HF4.out.2.2.2.2 (by omega) (by omega) (by omega)
      have hrc := hr.cell
      have hrf := hr.frozen
      have HG := Lib.hid (And.intro g1 (And.intro g2 (And.intro g3 (And.intro hr (And.intro hys hK)))))
      clear g1 g2 g3 hr hK hys
      gi_wp2_with fail
      obtain ⟨g1, g2, g3, hr, hys, hK⟩ := HG.out
      have hr2 := heap_setCell_same W (w.heap.size + 1) 0 _ _ (.bool false) hr
      have p2 := g1.keep ((Below.refl (w.heap.size + 1) W).setCell (p := ⟨w.heap.size + 1, 0, none⟩) (Nat.le_refl _) (.bool false)) (HLT.out.mono (by omega))
      have k2 : Kept P.s P.g P.b w (W.setCell ⟨w.heap.size + 1, 0, none⟩ (.bool false)) := ((Kept.of HF4.out.2.1).trans g3).set _ _ (.inr (.inr (.inr (show w.heap.size ≤ w.heap.size + 1 by omega))))
      refine ret_marks (B := W4.heap.size) (m := D + 1) ((MarksLt.nil W4.heap.size D _).cons (Nat.le_refl _) hD (Nat.lt_succ_self _) ((Below.heap_setCell _ _ _ _ (show D ≠ w.heap.size + 1 by omega)).trans hK)) (fun W' hW' => ?_)
      have hr3 : Boxed W' (w.heap.size + 1) 4 (.bool false) := (hW'.block _ (by omega)).trans hr2
      have hrc3 := hr3.cell
      refine ⟨.bool false, by simp [results, Tryz.results133, go_sem, hrc3], ?_⟩
      have ht : tryF (frm nl) nl.length (n + 1) k st = (false, s') := by show tryH _ _ _ (members (frm nl k)) st = _; rw [← hys]; exact g2
      unfold Post
      rw [ht]
      exact ⟨rfl, p2.keep hW' l4, k2.onto hW' (by omega)⟩
    case stop =>
      rintro D c pre W hD hpre ⟨rfl, ⟨s', g1, g2⟩, g3, g4, g5⟩ hK
      refine wpIn_ret ?_
      refine ret_marks (B := W4.heap.size) (m := D + 1) ((MarksLt.nil W4.heap.size D _).cons (Nat.le_refl _) hD (Nat.lt_succ_self _) hK) (fun W' hW' => ?_)
      have hr3 : Boxed W' (w.heap.size + 1) 4 (.bool true) := (hW'.block _ (by omega)).trans g4
      have hrc3 := hr3.cell
      refine ⟨.bool true, by simp [results, Tryz.results133, go_sem, hrc3], ?_⟩
      have ht : tryF (frm nl) nl.length (n + 1) k st = (true, s') := by show tryH _ _ _ (members (frm nl k)) st = _; obtain ⟨t, ht⟩ := hpre; rw [← ht]; exact tryH_app_yes _ _ _ _ _ _ _ g2
      unfold Post
      rw [ht]
      exact ⟨rfl, g1.keep hW' l4, g3.onto hW' (by omega)⟩
end Go.Proofs.YtnhifinfjfpoiaaGreat

namespace Go.Proofs.YtnhifinfjfpoiaaGreat
open Go.RowKit
set_option linter.unusedVariables false
attribute [local go_sem] Oper.semAt_some

/-- Block s is a stall: its rooms, its needs, what is given (block g). -/
structure StallAt (w : World) (B s g : Nat) (nv : Value) (nl : List (Int × Int)) (room : Nat → Int) (giv : Nat → Nat → Int) : Prop where
  stall : w.heap[s]? = some (.cells (eight room nv (.slice (some ⟨g, 0, none⟩) nl.length nl.length)) 163 (0, 0))
  giv : GivAt w g nl.length giv
  needs : IsPairs w B nv nl
  base : B ≤ w.heap.size
  bs : B ≤ s
  bg : B ≤ g
  sg : s ≠ g
theorem StallAt.lt {w : World} {B s g : Nat} {nv : Value} {nl : List (Int × Int)} {room : Nat → Int} {giv : Nat → Nat → Int} (h : StallAt w B s g nv nl room giv) : s < w.heap.size ∧ g < w.heap.size := by
  obtain ⟨A, h1, _, _⟩ := h.giv
  exact ⟨(Array.getElem?_eq_some_iff.1 h.stall).1, (Array.getElem?_eq_some_iff.1 h1).1⟩
theorem StallAt.below {w w' : World} {B s g : Nat} {nv : Value} {nl : List (Int × Int)} {room : Nat → Int} {giv : Nat → Nat → Int} (h : StallAt w B s g nv nl room giv) (hb : Below w.heap.size w w') : StallAt w' B s g nv nl room giv := by
  obtain ⟨l1, l2⟩ := h.lt
  refine ⟨(hb.block _ l1).trans h.stall, ?_, h.needs.below hb h.base, Nat.le_trans h.base hb.size, h.bs, h.bg, h.sg⟩
  obtain ⟨A, h1, h2, h3⟩ := h.giv
  exact ⟨A, (hb.block _ l2).trans h1, h2, h3⟩
/-- One search for need k. -/
def putF (nl : List (Int × Int)) (k : Nat) (room : Nat → Int) (giv : Nat → Nat → Int) : Bool × St := tryF (frm nl) nl.length 7 k ⟨0, room, giv⟩

theorem put_any (w : World) (B s g : Nat) (nv : Value) (nl : List (Int × Int)) (room : Nat → Int) (giv : Nat → Nat → Int) (k : Nat) (h : StallAt w B s g nv nl room giv) (hnl : FrmOk nl) (hk : k < nl.length) :
    Calls Tryz.prog 124 #[.pointer (some ⟨s, 0, none⟩), .int .i64 k] w fun e w' => e = .returned (.tuple #[.int .i64 ((putF nl k room giv).2.t : Nat), .bool (putF nl k room giv).1]) ∧
      StallAt w' B s g nv nl (putF nl k room giv).2.room (putF nl k room giv).2.giv ∧ Kept s g s w w' := by
  obtain ⟨l1, l2⟩ := h.lt
  have hbs := h.bs; have hbg := h.bg; have hsg := h.sg; have hbase := h.base
  have hP : Pt.Ok ⟨s, g, w.heap.size + 1, w.heap.size + 1 + 1, w.heap.size, B⟩ := ⟨by simpa, by simpa, by simp; omega, by simp; omega, by simpa, by simpa, by simp; omega, by simp; omega, by simp; omega, by simp; omega, by simp, by simp; omega, by simp; omega, by simp⟩
  have HH := Lib.hid h
  have HP := Lib.hid hP
  have HNL := Lib.hid hnl
  clear h hP hnl hbs hbg hsg hbase
  go_enter Tryz.func124, Tryz.ntmps124
  go_wp2_with fail
  have hb3 : Below w.heap.size w (((w.alloc (.cells #[.pointer (some ⟨s, 0, none⟩)] 136)).alloc (.cells #[.int .i64 0] 81)).alloc (.cells #[.func (.func 133) #[] #[.pointer (some ⟨w.heap.size, 0, none⟩), .pointer (some ⟨w.heap.size + 1, 0, none⟩), .pointer (some ⟨w.heap.size + 1 + 1, 0, none⟩)]] 79)) :=
    (((Below.refl _ w).alloc (Nat.le_refl _) _).alloc (by simp) _).alloc (by simp; omega) _
  obtain ⟨W3, hW3⟩ : ∃ W3, (((w.alloc (.cells #[.pointer (some ⟨s, 0, none⟩)] 136)).alloc (.cells #[.int .i64 0] 81)).alloc (.cells #[.func (.func 133) #[] #[.pointer (some ⟨w.heap.size, 0, none⟩), .pointer (some ⟨w.heap.size + 1, 0, none⟩), .pointer (some ⟨w.heap.size + 1 + 1, 0, none⟩)]] 79)) = W3 := ⟨_, rfl⟩
  have x1 : Boxed W3 w.heap.size 136 (.pointer (some ⟨s, 0, none⟩)) := by rw [← hW3]; exact ((Boxed.new w _ _).alloc _).alloc _
  have x2 : Boxed W3 (w.heap.size + 1) 81 (.int .i64 0) := by
    rw [← hW3]
    have := (Boxed.new (w.alloc (.cells #[.pointer (some ⟨s, 0, none⟩)] 136)) 81 (.int .i64 0))
    rw [World.size_alloc] at this
    exact this.alloc _
  have x3 : Boxed W3 (w.heap.size + 1 + 1) 79 (.func (.func 133) #[] #[.pointer (some ⟨w.heap.size, 0, none⟩), .pointer (some ⟨w.heap.size + 1, 0, none⟩), .pointer (some ⟨w.heap.size + 1 + 1, 0, none⟩)]) := by
    rw [← hW3]
    have := (Boxed.new ((w.alloc (.cells #[.pointer (some ⟨s, 0, none⟩)] 136)).alloc (.cells #[.int .i64 0] 81)) 79 (.func (.func 133) #[] #[.pointer (some ⟨w.heap.size, 0, none⟩), .pointer (some ⟨w.heap.size + 1, 0, none⟩), .pointer (some ⟨w.heap.size + 1 + 1, 0, none⟩)]))
    rw [World.size_alloc, World.size_alloc] at this
    exact this
  rw [hW3] at hb3 ⊢
  clear hW3
  have h3 := HH.out.below hb3
  have hput : PutAt W3 ⟨s, g, w.heap.size + 1, w.heap.size + 1 + 1, w.heap.size, B⟩ nv nl ⟨0, room, giv⟩ := ⟨h3.stall, h3.giv, x2, x3, x1, h3.needs, h3.base, Nat.zero_lt_succ 63⟩
  refine (try_any _ HP.out nv nl HNL.out 7 k ⟨0, room, giv⟩ W3 hput (by show untried 0 < 7; decide) hk).mono ?_
  rintro e w4 ⟨rfl, p4, k4⟩
  have c4 := p4.tried.cell
  have HX := Lib.hid (And.intro hb3 (And.intro p4 k4))
  clear hb3 p4 k4 x1 x2 x3 h3 hput
  dsimp only at c4
  go_wp2_with fail
  go_ret2
  obtain ⟨hb3, p4, k4⟩ := HX.out
  refine ⟨rfl, ⟨p4.stall, p4.giv, p4.needs, p4.base, HH.out.bs, HH.out.bg, HH.out.sg⟩, ?_⟩
  have k5 := (Kept.of hb3).trans k4
  exact ⟨k5.os, k5.tape, k5.output, k5.size, fun i hi h1 h2 _ => k5.block i hi h1 h2 (by show i ≠ w.heap.size + 1; omega)⟩
end Go.Proofs.YtnhifinfjfpoiaaGreat
