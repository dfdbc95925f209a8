/- The readings of memory on which all contracts rest: a slice of integers, of pairs, of rows, a colony; each stays read where nothing below its bound has turned. Contracts of the small functions: bounds, bits, runs. Contracts of the library's IndexFunc, ContainsFunc and of the generic 'every', at the kinds of element that occur, for whatever function is asked. Maps that a call makes, keyed by pairs of integers: a set of pairs (map[rat.Run]bool). What Check answers, as plain functions of a colony. Contracts of the comparisons of lists: numbers, spans, runs, rows. -/
import Derived.Test.YtnhifinfjfpoiaaProg
import Derived.WalkKit
import Derived.WalkSpells
import Derived.WalkLawsBesides
import Derived.Lib.Hide
import Derived.Deep.QuietTactic
import Derived.BigQuiet
import Derived.Maps.Own
import Derived.Maps.OwnOps
import Derived.Maps.OwnSet
import Derived.DeepKeys5
import Derived.Laws.StructEq
namespace Go.Proofs.Ytnhifinfjfpoiaa
open Go.RowKit

def I64 (n : Int) : Prop := -9223372036854775808 ≤ n ∧ n ≤ 9223372036854775807
def nth (xs : List Int) (i : Nat) : Int := xs.getD i 0
def nthP (xs : List (Int × Int)) (i : Nat) : Int × Int := xs.getD i (0, 0)
def nthR (xs : List (List Int)) (i : Nat) : List Int := xs.getD i []
def nthB (xs : List Bool) (i : Nat) : Bool := xs.getD i false
theorem nth_eq {xs : List Int} {i : Nat} (h : i < xs.length) : nth xs i = xs[i] := by simp [nth, h]
theorem nthP_eq {xs : List (Int × Int)} {i : Nat} (h : i < xs.length) : nthP xs i = xs[i] := by simp [nthP, h]
theorem nthR_eq {xs : List (List Int)} {i : Nat} (h : i < xs.length) : nthR xs i = xs[i] := by simp [nthR, h]
theorem nthB_eq {xs : List Bool} {i : Nat} (h : i < xs.length) : nthB xs i = xs[i] := by simp [nthB, h]
theorem nth_mem {xs : List Int} {i : Nat} (h : i < xs.length) : nth xs i ∈ xs := by rw [nth_eq h]; exact List.getElem_mem h
theorem nthP_mem {xs : List (Int × Int)} {i : Nat} (h : i < xs.length) : nthP xs i ∈ xs := by rw [nthP_eq h]; exact List.getElem_mem h
theorem nthR_mem {xs : List (List Int)} {i : Nat} (h : i < xs.length) : nthR xs i ∈ xs := by rw [nthR_eq h]; exact List.getElem_mem h

/-- A slice of n elements of sz cells each, in blocks below B; cell j holds f j. -/
def SlAt (w : World) (B : Nat) (v : Value) (n sz : Nat) (f : Nat → Value) : Prop :=
  ∃ (a : Option Addr) (cap : Nat), v = .slice a n cap ∧ n ≤ cap ∧ n ≤ 140737488355328 ∧
    (n = 0 ∨ ∃ b off, a = some ⟨b, off, none⟩ ∧ b < B ∧ ∀ j, j < n * sz → w.cell? ⟨b, off + j, none⟩ = some (f j))

theorem SlAt.below {w w' : World} {B B' : Nat} {v : Value} {n sz : Nat} {f : Nat → Value} (h : SlAt w B v n sz f) (hb : Below B' w w') (hB : B ≤ B') : SlAt w' B v n sz f := by
  obtain ⟨a, cap, hv, h1, h2, h3⟩ := h
  refine ⟨a, cap, hv, h1, h2, ?_⟩
  rcases h3 with h3 | ⟨b, off, ha, hlt, hc⟩
  · exact .inl h3
  · exact .inr ⟨b, off, ha, hlt, fun j hj => (hb.cell (p := ⟨b, off + j, none⟩) (Nat.lt_of_lt_of_le hlt hB)).trans (hc j hj)⟩
theorem SlAt.mono {w : World} {B B' : Nat} {v : Value} {n sz : Nat} {f : Nat → Value} (h : SlAt w B v n sz f) (hB : B ≤ B') : SlAt w B' v n sz f := by
  obtain ⟨a, cap, hv, h1, h2, h3⟩ := h
  refine ⟨a, cap, hv, h1, h2, ?_⟩
  rcases h3 with h3 | ⟨b, off, ha, hlt, hc⟩
  · exact .inl h3
  · exact .inr ⟨b, off, ha, Nat.lt_of_lt_of_le hlt hB, hc⟩

def IsInts (w : World) (B : Nat) (v : Value) (xs : List Int) : Prop :=
  SlAt w B v xs.length 1 (fun j => .int .i64 (nth xs j)) ∧ ∀ x ∈ xs, I64 x
def IsBools (w : World) (B : Nat) (v : Value) (xs : List Bool) : Prop :=
  SlAt w B v xs.length 1 (fun j => .bool (nthB xs j))
def pcell (ps : List (Int × Int)) (j : Nat) : Value := .int .i64 (if j % 2 = 0 then (nthP ps (j / 2)).1 else (nthP ps (j / 2)).2)
def IsPairs (w : World) (B : Nat) (v : Value) (ps : List (Int × Int)) : Prop :=
  SlAt w B v ps.length 2 (pcell ps) ∧ ∀ p ∈ ps, I64 p.1 ∧ I64 p.2
def IsRows (w : World) (B : Nat) (v : Value) (rows : List (List Int)) : Prop :=
  ∃ f : Nat → Value, SlAt w B v rows.length 1 f ∧ ∀ j, j < rows.length → IsInts w B (f j) (nthR rows j)

structure Col where
  rooms : List Int
  traps : List Int
  runs : List (Int × Int)
  nights : List (List Int)

def ColAt (w : World) (B : Nat) (r t u n : Value) (c : Col) : Prop :=
  IsInts w B r c.rooms ∧ IsInts w B t c.traps ∧ IsPairs w B u c.runs ∧ IsRows w B n c.nights

theorem IsInts.below {w w' : World} {B B' : Nat} {v : Value} {xs : List Int} (h : IsInts w B v xs) (hb : Below B' w w') (hB : B ≤ B') : IsInts w' B v xs := ⟨h.1.below hb hB, h.2⟩
theorem IsInts.mono {w : World} {B B' : Nat} {v : Value} {xs : List Int} (h : IsInts w B v xs) (hB : B ≤ B') : IsInts w B' v xs := ⟨h.1.mono hB, h.2⟩
theorem IsBools.below {w w' : World} {B B' : Nat} {v : Value} {xs : List Bool} (h : IsBools w B v xs) (hb : Below B' w w') (hB : B ≤ B') : IsBools w' B v xs := SlAt.below h hb hB
theorem IsBools.mono {w : World} {B B' : Nat} {v : Value} {xs : List Bool} (h : IsBools w B v xs) (hB : B ≤ B') : IsBools w B' v xs := SlAt.mono h hB
theorem IsPairs.below {w w' : World} {B B' : Nat} {v : Value} {xs : List (Int × Int)} (h : IsPairs w B v xs) (hb : Below B' w w') (hB : B ≤ B') : IsPairs w' B v xs := ⟨h.1.below hb hB, h.2⟩
theorem IsPairs.mono {w : World} {B B' : Nat} {v : Value} {xs : List (Int × Int)} (h : IsPairs w B v xs) (hB : B ≤ B') : IsPairs w B' v xs := ⟨h.1.mono hB, h.2⟩
theorem IsRows.below {w w' : World} {B B' : Nat} {v : Value} {xs : List (List Int)} (h : IsRows w B v xs) (hb : Below B' w w') (hB : B ≤ B') : IsRows w' B v xs :=
  let ⟨f, h1, h2⟩ := h; ⟨f, h1.below hb hB, fun j hj => (h2 j hj).below hb hB⟩
theorem IsRows.mono {w : World} {B B' : Nat} {v : Value} {xs : List (List Int)} (h : IsRows w B v xs) (hB : B ≤ B') : IsRows w B' v xs :=
  let ⟨f, h1, h2⟩ := h; ⟨f, h1.mono hB, fun j hj => (h2 j hj).mono hB⟩
theorem ColAt.below {w w' : World} {B B' : Nat} {r t u n : Value} {c : Col} (h : ColAt w B r t u n c) (hb : Below B' w w') (hB : B ≤ B') : ColAt w' B r t u n c :=
  ⟨h.1.below hb hB, h.2.1.below hb hB, h.2.2.1.below hb hB, h.2.2.2.below hb hB⟩
theorem ColAt.mono {w : World} {B B' : Nat} {r t u n : Value} {c : Col} (h : ColAt w B r t u n c) (hB : B ≤ B') : ColAt w B' r t u n c :=
  ⟨h.1.mono hB, h.2.1.mono hB, h.2.2.1.mono hB, h.2.2.2.mono hB⟩

/-- The slice's value, and its cells where there is an element. -/
theorem IsInts.open {w : World} {B : Nat} {v : Value} {xs : List Int} (h : IsInts w B v xs) :
    ∃ (a : Option Addr) (cap : Nat), v = .slice a xs.length cap ∧ xs.length ≤ cap ∧ xs.length ≤ 140737488355328 ∧ (∀ i, i < xs.length → ∃ b off, a = some ⟨b, off, none⟩ ∧ b < B ∧ w.cell? ⟨b, off + i, none⟩ = some (.int .i64 (nth xs i))) := by
  obtain ⟨⟨a, cap, hv, h1, h2, h3⟩, _⟩ := h
  refine ⟨a, cap, hv, h1, h2, fun i hi => ?_⟩
  rcases h3 with h3 | ⟨b, off, ha, hlt, hc⟩
  · omega
  · exact ⟨b, off, ha, hlt, hc i (by omega)⟩
theorem IsBools.open {w : World} {B : Nat} {v : Value} {xs : List Bool} (h : IsBools w B v xs) :
    ∃ (a : Option Addr) (cap : Nat), v = .slice a xs.length cap ∧ xs.length ≤ cap ∧ xs.length ≤ 140737488355328 ∧ (∀ i, i < xs.length → ∃ b off, a = some ⟨b, off, none⟩ ∧ b < B ∧ w.cell? ⟨b, off + i, none⟩ = some (.bool (nthB xs i))) := by
  obtain ⟨a, cap, hv, h1, h2, h3⟩ := h
  refine ⟨a, cap, hv, h1, h2, fun i hi => ?_⟩
  rcases h3 with h3 | ⟨b, off, ha, hlt, hc⟩
  · omega
  · exact ⟨b, off, ha, hlt, hc i (by omega)⟩
theorem IsPairs.open {w : World} {B : Nat} {v : Value} {xs : List (Int × Int)} (h : IsPairs w B v xs) :
    ∃ (a : Option Addr) (cap : Nat), v = .slice a xs.length cap ∧ xs.length ≤ cap ∧ xs.length ≤ 140737488355328 ∧ (∀ i, i < xs.length → ∃ b off, a = some ⟨b, off, none⟩ ∧ b < B ∧ w.cell? ⟨b, off + i * 2, none⟩ = some (.int .i64 (nthP xs i).1) ∧ w.cell? ⟨b, off + i * 2 + 1, none⟩ = some (.int .i64 (nthP xs i).2)) := by
  obtain ⟨⟨a, cap, hv, h1, h2, h3⟩, _⟩ := h
  refine ⟨a, cap, hv, h1, h2, fun i hi => ?_⟩
  rcases h3 with h3 | ⟨b, off, ha, hlt, hc⟩
  · omega
  · refine ⟨b, off, ha, hlt, ?_, ?_⟩
    · rw [hc (i * 2) (by omega)]; simp [pcell]
    · rw [Nat.add_assoc, hc (i * 2 + 1) (by omega)]
      have e1 : (i * 2 + 1) % 2 = 1 := by omega
      have e2 : (i * 2 + 1) / 2 = i := by omega
      simp [pcell, e1, e2]
theorem IsRows.open {w : World} {B : Nat} {v : Value} {xs : List (List Int)} (h : IsRows w B v xs) :
    ∃ (a : Option Addr) (cap : Nat), v = .slice a xs.length cap ∧ xs.length ≤ cap ∧ xs.length ≤ 140737488355328 ∧ (∀ i, i < xs.length → ∃ b off u, a = some ⟨b, off, none⟩ ∧ b < B ∧ w.cell? ⟨b, off + i, none⟩ = some u ∧ IsInts w B u (nthR xs i)) := by
  obtain ⟨f, ⟨a, cap, hv, h1, h2, h3⟩, hr⟩ := h
  refine ⟨a, cap, hv, h1, h2, fun i hi => ?_⟩
  rcases h3 with h3 | ⟨b, off, ha, hlt, hc⟩
  · omega
  · exact ⟨b, off, f i, ha, hlt, hc i (by omega), hr i hi⟩

theorem bcell {B : Nat} {W w1 : World} (hb : Below B W w1) : (∀ b o, b < B → w1.cell? ⟨b, o, none⟩ = W.cell? ⟨b, o, none⟩) ∧ (∀ b o, b < B → w1.frozen? ⟨b, o, none⟩ = W.frozen? ⟨b, o, none⟩) :=
  ⟨fun b o h => hb.cell (p := ⟨b, o, none⟩) h, fun b o h => hb.frozen (p := ⟨b, o, none⟩) h⟩
theorem Below.drewN {B : Nat} {a w : World} (h : Below B a w) : ∀ n, Below B a (w.drewN n) := fun n => by
  refine h.trans ?_
  exact ⟨rfl, rfl, rfl, Nat.le_refl _, fun _ _ => rfl⟩
theorem ret_int {k : IntKind} {a b : Int} (h : a = b) : Ending.returned (.int k a) = .returned (.int k b) := by rw [h]
theorem ret_bool {a b : Bool} (h : a = b) : Ending.returned (.bool a) = .returned (.bool b) := by rw [h]
end Go.Proofs.Ytnhifinfjfpoiaa

namespace Go.Proofs.Ytnhifinfjfpoiaa
open Go.RowKit
set_option linter.unusedVariables false

def inB (n lo hi : Int) : Bool := decide (lo ≤ n ∧ n ≤ hi)
theorem inB_true {n lo hi : Int} (h : inB n lo hi = true) : lo ≤ n ∧ n ≤ hi := by simpa [inB] using h
theorem inB_false {n lo hi : Int} (h : inB n lo hi = false) : ¬ (lo ≤ n ∧ n ≤ hi) := by
  intro h'; simp [inB, h'.1, h'.2] at h
theorem inB_of {n lo hi : Int} (h : lo ≤ n ∧ n ≤ hi) : inB n lo hi = true := by simpa [inB] using h
theorem inB_not {n lo hi : Int} (h : ¬ (lo ≤ n ∧ n ≤ hi)) : inB n lo hi = false := by
  unfold inB; exact decide_eq_false h

theorem in_any (n lo hi : Int) (w : World) : Calls Try.prog 78 #[.int .i64 n, .int .i64 lo, .int .i64 hi] w fun e w' => e = .returned (.bool (inB n lo hi)) ∧ w = w' := by
  by_cases h : lo ≤ n <;> by_cases h2 : n ≤ hi
  all_goals
    go_enter Try.func78, Try.ntmps78
    go_wp2
    go_ret
    exact ⟨ret_bool (by first | exact (inB_of (by omega)).symm | exact (inB_not (by omega)).symm), rfl⟩

theorem off_any (n lo hi : Int) (w : World) : Calls Try.prog 87 #[.int .i64 n, .int .i64 lo, .int .i64 hi] w fun e w' => e = .returned (.bool (!inB n lo hi)) ∧ w = w' := by
  by_cases h : lo ≤ n <;> by_cases h2 : n ≤ hi
  all_goals
    go_enter Try.func87, Try.ntmps87
    go_wp2
    go_ret
    exact ⟨ret_bool (by first | (rw [inB_of ⟨h, h2⟩]; simp; omega) | (rw [inB_not (by omega)]; simp; done) | (rw [inB_not (by omega)]; simp; omega)), rfl⟩

theorem bit_of : ∀ m : Fin 64, ∀ h : Fin 6, (bits BinOp.and IntKind.i64 ((m.val : Int) / 2 ^ h.val) 1 == 1) = m.val.testBit h.val := by decide +kernel

theorem has_any (m h : Nat) (w : World) (hm : m < 64) (hh : h < 6) : Calls Try.prog 125 #[.int .i64 m, .int .i64 h] w fun e w' => e = .returned (.bool (m.testBit h)) ∧ w = w' := by
  have hb := Lib.hid (bit_of ⟨m, hm⟩ ⟨h, hh⟩)
  go_enter Try.func125, Try.ntmps125
  go_wp2
  go_ret
  exact ⟨ret_bool hb.out, rfl⟩

def joinsB (p : Int × Int) (a b : Int) : Bool := (p.1 == a && p.2 == b) || (p.1 == b && p.2 == a)
theorem joins_any (p : Int × Int) (a b : Int) (w : World) : Calls Try.prog 88 #[.agg #[.int .i64 p.1, .int .i64 p.2], .int .i64 a, .int .i64 b] w fun e w' => e = .returned (.bool (joinsB p a b)) ∧ Below w.heap.size w w' := by
  obtain ⟨x, y⟩ := p
  have hB : Below w.heap.size w (w.alloc (.cells #[.int .i64 x, .int .i64 y] 111)) := (Below.refl _ _).alloc (Nat.le_refl _) _
  cases h1 : (x == a) <;> cases h2 : (y == b) <;> cases h3 : (x == b) <;> cases h4 : (y == a)
  all_goals
    go_enter Try.func88, Try.ntmps88
    go_wp2
    go_ret
    exact ⟨ret_bool (by simp [joinsB, h1, h2, h3, h4]), hB⟩

theorem pair_any (x y : Int) (w : World) : Calls Try.prog 86 #[.agg #[.int .i64 x, .int .i64 y]] w fun e w' => e = .returned (.agg #[.int .i64 (min x y), .int .i64 (max x y)]) ∧ Below w.heap.size w w' := by
  rcases Int.lt_trichotomy x y with h | h | h
  · have e1 : min x y = x := by omega
    have e2 : max x y = y := by omega
    rw [e1, e2]; clear e1 e2
    go_enter Try.func86, Try.ntmps86
    go_wp2
    all_goals exact bodyPost_ret (v := .agg #[.int .i64 x, .int .i64 y]) (by simp [results, Try.results86, go_sem]) rfl ⟨rfl, ((Below.refl _ _).alloc (Nat.le_refl _) _).alloc (by simp) _⟩
  · subst h
    have e1 : min x x = x := by omega
    have e2 : max x x = x := by omega
    rw [e1, e2]; clear e1 e2
    go_enter Try.func86, Try.ntmps86
    go_wp2
    all_goals exact bodyPost_ret (v := .agg #[.int .i64 x, .int .i64 x]) (by simp [results, Try.results86, go_sem]) rfl ⟨rfl, ((Below.refl _ _).alloc (Nat.le_refl _) _).alloc (by simp) _⟩
  · have e1 : min x y = y := by omega
    have e2 : max x y = x := by omega
    rw [e1, e2]; clear e1 e2
    go_enter Try.func86, Try.ntmps86
    go_wp2
    all_goals exact bodyPost_ret (v := .agg #[.int .i64 y, .int .i64 x]) (by simp [results, Try.results86, go_sem]) rfl ⟨rfl, ((Below.refl _ _).alloc (Nat.le_refl _) _).alloc (by simp) _⟩

theorem house_any (h : Int) (p : Addr) (a : Option Addr) (n cap : Nat) (w : World) (hc : w.cell? p = some (.slice a n cap)) (hn : n ≤ 140737488355328) : Calls Try.prog 111 #[.pointer (some p), .int .i64 h] w fun e w' => e = .returned (.bool (inB h 0 (n - 1))) ∧ w = w' := by
  go_enter Try.func111, Try.ntmps111
  go_wp2_with (go_at_call 78; refine (in_any _ _ _ _).mono ?_; rintro e w' ⟨rfl, rfl⟩)
  go_ret
  exact ⟨rfl, rfl⟩

/-- A row of a night, and a number of it. -/
theorem fullD_any (h n : Nat) (b : Nat) (at_ an : Option Addr) (lt ct ln cn : Nat) (bt ot bn on br or_ lr cr : Nat) (x y : Int) (w : World)
    (ht : w.cell? ⟨b, 1, none⟩ = some (.slice (some ⟨bt, ot, none⟩) lt ct)) (hn : w.cell? ⟨b, 3, none⟩ = some (.slice (some ⟨bn, on, none⟩) ln cn))
    (hr : w.cell? ⟨bn, on + n, none⟩ = some (.slice (some ⟨br, or_, none⟩) lr cr)) (hx : w.cell? ⟨br, or_ + h, none⟩ = some (.int .i64 x)) (hy : w.cell? ⟨bt, ot + h, none⟩ = some (.int .i64 y))
    (h1 : n < ln) (h2 : h < lr) (h3 : h < lt) (b1 : ln ≤ 140737488355328) (b2 : lr ≤ 140737488355328) (b3 : lt ≤ 140737488355328) :
    Calls Try.prog 90 #[.pointer (some ⟨b, 0, none⟩), .int .i64 h, .int .i64 n] w fun e w' => e = .returned (.bool (x == y)) ∧ ∃ k, w' = w.drewN k := by
  go_enter Try.func90, Try.ntmps90
  go_wp2
  go_quiet (fail)
  go_wp2
  go_ret
  exact ⟨rfl, _, rfl⟩
end Go.Proofs.Ytnhifinfjfpoiaa

namespace Go.Proofs.Ytnhifinfjfpoiaa
open Go.RowKit
set_option linter.unusedVariables false

/-- What is asked of a function value: it is entered as g with what it has captured; at element i it answers p i and turns nothing that lay. -/
def Asks (B : Nat) (W : World) (g : Nat) (cap : Array Value) (n : Nat) (arg : Nat → Value) (p : Nat → Bool) : Prop :=
  (∀ (args : Array Value) (w : World), (callFunc g args).run Try.prog w = .ok (.enter g args) w) ∧
  ∀ i, i < n → ∀ w', Below B W w' → B ≤ w'.heap.size → Calls Try.prog g (#[arg i] ++ cap) w' fun e w'' => e = .returned (.bool (p i)) ∧ Below w'.heap.size w' w''

/-- The first index below n at which p says yes, or -1. -/
def firstB (p : Nat → Bool) : Nat → Nat → Int
  | 0, _ => -1
  | f + 1, i => if p i then (i : Int) else firstB p f (i + 1)
theorem firstB_none {p : Nat → Bool} : ∀ {f i : Nat}, (∀ j, i ≤ j → j < i + f → p j = false) → firstB p f i = -1
  | 0, _, _ => rfl
  | f + 1, i, h => by
    rw [firstB, h i (Nat.le_refl _) (by omega)]
    exact firstB_none (fun j h1 h2 => h j (by omega) (by omega))
theorem firstB_some {p : Nat → Bool} : ∀ {f i k : Nat}, i ≤ k → k < i + f → (∀ j, i ≤ j → j < k → p j = false) → p k = true → firstB p f i = k
  | 0, _, _, h1, h2, _, _ => by omega
  | f + 1, i, k, h1, h2, h3, h4 => by
    rw [firstB]
    by_cases e : i = k
    · subst e; rw [h4]; rfl
    · rw [h3 i (Nat.le_refl _) (by omega)]
      exact firstB_some (by omega) (by omega) (fun j h5 h6 => h3 j (by omega) h6) h4
def anyB (p : Nat → Bool) (n : Nat) : Bool := (List.range n).any p
theorem firstB_any' (p : Nat → Bool) : ∀ (f i : Nat), decide (0 ≤ firstB p f i) = (List.range' i f).any p
  | 0, _ => rfl
  | f + 1, i => by
    rw [firstB, List.range'_succ, List.any_cons]
    cases h : p i
    · simpa using firstB_any' p f (i + 1)
    · simp
theorem firstB_any (p : Nat → Bool) (n i : Nat) : decide (0 ≤ firstB p n 0) = anyB p n := by
  rw [firstB_any', anyB, List.range_eq_range']

set_option maxHeartbeats 1000000 in
theorem indexRows_any (v : Value) (n : Nat) (g : Nat) (cap : Array Value) (p : Nat → Bool) (f : Nat → Value) (w : World) (h : SlAt w w.heap.size v n 1 f)
    (hf : Asks w.heap.size w g cap n (fun i => f i) p) :
    Calls Try.prog 147 #[v, .func (.func g) #[] cap] w fun e w' => e = .returned (.int .i64 (firstB p n 0)) ∧ Below w.heap.size w w' := by
  obtain ⟨a, c, rfl, hc, hm, hcell⟩ := h
  obtain ⟨hcall, hf⟩ := hf
  have HF := Lib.hid hf; clear hf
  have HX := Lib.hid hcell; clear hcell
  go_enter Try.func147, Try.ntmps147
  go_wp2_with fail
  go_loopw [4, 5, 8] (fun _ _ i wr => ∃ k : Nat, k ≤ n ∧ i = .int .i64 k ∧ Hid (∀ j, j < k → p j = false) ∧ Below w.heap.size w wr) (fun _ _ i _ => n - (intOf i).toNat)
  case atStart => exact ⟨0, Nat.zero_le _, rfl, fun j hj => by omega, Below.refl _ _⟩
  case round =>
    obtain ⟨k, hk, rfl, hno, hb⟩ := hrel
    by_cases hlt : k < n
    · rcases HX.out with h0 | ⟨b, off, rfl, hbl, hcell⟩
      · omega
      have hc1 : wr.cell? ⟨b, off + k, none⟩ = some (f k) := (hb.cell (p := ⟨b, off + k, none⟩) hbl).trans (hcell k (by omega))
      have HC := Lib.hid (HF.out k hlt wr hb hb.size)
      clear hcell
      go_wp2_with fail
      refine HC.out.mono ?_
      rintro e w1 ⟨rfl, hb1⟩
      have hb2 := hb.trans (hb1.mono hb.size)
      cases hp : p k
      · have HP := Lib.hid hp; clear hp
        go_wp2_with fail
        go_roundw
        case rel => exact ⟨k + 1, by omega, by go_num, fun j hj => by rcases Nat.lt_succ_iff_lt_or_eq.1 hj with h | h; exact hno.out j h; rw [h]; exact HP.out, hb2⟩
        case measure => simp [intOf]; omega
      · have HP := Lib.hid hp; clear hp
        go_wp2_with fail
        go_ret
        exact ⟨ret_int (firstB_some (Nat.zero_le _) (by omega) (fun j _ h => hno.out j h) HP.out).symm, hb2⟩
    · go_wp2_with fail
      go_ret
      exact ⟨ret_int (firstB_none (fun j _ h => hno.out j (by omega))).symm, hb⟩

theorem containsRows_any (v : Value) (n : Nat) (g : Nat) (cap : Array Value) (p : Nat → Bool) (f : Nat → Value) (w : World) (h : SlAt w w.heap.size v n 1 f)
    (hf : Asks w.heap.size w g cap n (fun i => f i) p) :
    Calls Try.prog 134 #[v, .func (.func g) #[] cap] w fun e w' => e = .returned (.bool (anyB p n)) ∧ Below w.heap.size w w' := by
  have hg := firstB_any p n 0
  have HG := Lib.hid hg; clear hg
  have HC := Lib.hid (indexRows_any v n g cap p f w h hf)
  clear h hf
  go_enter Try.func134, Try.ntmps134
  go_wp2_with fail
  refine HC.out.mono ?_
  rintro e w' ⟨rfl, hb⟩
  go_wp2
  go_ret
  exact ⟨ret_bool HG.out, hb⟩

set_option maxHeartbeats 1000000 in
theorem indexInts_any (v : Value) (n : Nat) (g : Nat) (cap : Array Value) (p : Nat → Bool) (f : Nat → Value) (w : World) (h : SlAt w w.heap.size v n 1 f)
    (hf : Asks w.heap.size w g cap n (fun i => f i) p) :
    Calls Try.prog 128 #[v, .func (.func g) #[] cap] w fun e w' => e = .returned (.int .i64 (firstB p n 0)) ∧ Below w.heap.size w w' := by
  obtain ⟨a, c, rfl, hc, hm, hcell⟩ := h
  obtain ⟨hcall, hf⟩ := hf
  have HF := Lib.hid hf; clear hf
  have HX := Lib.hid hcell; clear hcell
  go_enter Try.func128, Try.ntmps128
  go_wp2_with fail
  go_loopw [4, 5, 8] (fun _ _ i wr => ∃ k : Nat, k ≤ n ∧ i = .int .i64 k ∧ Hid (∀ j, j < k → p j = false) ∧ Below w.heap.size w wr) (fun _ _ i _ => n - (intOf i).toNat)
  case atStart => exact ⟨0, Nat.zero_le _, rfl, fun j hj => by omega, Below.refl _ _⟩
  case round =>
    obtain ⟨k, hk, rfl, hno, hb⟩ := hrel
    by_cases hlt : k < n
    · rcases HX.out with h0 | ⟨b, off, rfl, hbl, hcell⟩
      · omega
      have hc1 : wr.cell? ⟨b, off + k, none⟩ = some (f k) := (hb.cell (p := ⟨b, off + k, none⟩) hbl).trans (hcell k (by omega))
      have HC := Lib.hid (HF.out k hlt wr hb hb.size)
      clear hcell
      go_wp2_with fail
      refine HC.out.mono ?_
      rintro e w1 ⟨rfl, hb1⟩
      have hb2 := hb.trans (hb1.mono hb.size)
      cases hp : p k
      · have HP := Lib.hid hp; clear hp
        go_wp2_with fail
        go_roundw
        case rel => exact ⟨k + 1, by omega, by go_num, fun j hj => by rcases Nat.lt_succ_iff_lt_or_eq.1 hj with h | h; exact hno.out j h; rw [h]; exact HP.out, hb2⟩
        case measure => simp [intOf]; omega
      · have HP := Lib.hid hp; clear hp
        go_wp2_with fail
        go_ret
        exact ⟨ret_int (firstB_some (Nat.zero_le _) (by omega) (fun j _ h => hno.out j h) HP.out).symm, hb2⟩
    · go_wp2_with fail
      go_ret
      exact ⟨ret_int (firstB_none (fun j _ h => hno.out j (by omega))).symm, hb⟩

theorem containsInts_any (v : Value) (n : Nat) (g : Nat) (cap : Array Value) (p : Nat → Bool) (f : Nat → Value) (w : World) (h : SlAt w w.heap.size v n 1 f)
    (hf : Asks w.heap.size w g cap n (fun i => f i) p) :
    Calls Try.prog 56 #[v, .func (.func g) #[] cap] w fun e w' => e = .returned (.bool (anyB p n)) ∧ Below w.heap.size w w' := by
  have hg := firstB_any p n 0
  have HG := Lib.hid hg; clear hg
  have HC := Lib.hid (indexInts_any v n g cap p f w h hf)
  clear h hf
  go_enter Try.func56, Try.ntmps56
  go_wp2_with fail
  refine HC.out.mono ?_
  rintro e w' ⟨rfl, hb⟩
  go_wp2
  go_ret
  exact ⟨ret_bool HG.out, hb⟩

set_option maxHeartbeats 1000000 in
theorem indexRuns_any (v : Value) (n : Nat) (g : Nat) (cap : Array Value) (p : Nat → Bool) (f : Nat → Value) (w : World) (h : SlAt w w.heap.size v n 2 f)
    (hf : Asks w.heap.size w g cap n (fun i => .agg #[f (i * 2), f (i * 2 + 1)]) p) :
    Calls Try.prog 108 #[v, .func (.func g) #[] cap] w fun e w' => e = .returned (.int .i64 (firstB p n 0)) ∧ Below w.heap.size w w' := by
  obtain ⟨a, c, rfl, hc, hm, hcell⟩ := h
  obtain ⟨hcall, hf⟩ := hf
  have HF := Lib.hid hf; clear hf
  have HX := Lib.hid hcell; clear hcell
  go_enter Try.func108, Try.ntmps108
  go_wp2_with fail
  go_loopw [4, 5, 8] (fun _ _ i wr => ∃ k : Nat, k ≤ n ∧ i = .int .i64 k ∧ Hid (∀ j, j < k → p j = false) ∧ Below w.heap.size w wr) (fun _ _ i _ => n - (intOf i).toNat)
  case atStart => exact ⟨0, Nat.zero_le _, rfl, fun j hj => by omega, Below.refl _ _⟩
  case round =>
    obtain ⟨k, hk, rfl, hno, hb⟩ := hrel
    by_cases hlt : k < n
    · rcases HX.out with h0 | ⟨b, off, rfl, hbl, hcell⟩
      · omega
      have hc1 : wr.cell? ⟨b, off + k * 2, none⟩ = some (f (k * 2)) := (hb.cell (p := ⟨b, off + k * 2, none⟩) hbl).trans (hcell (k * 2) (by omega))
      have hc2 : wr.cell? ⟨b, off + k * 2 + 1, none⟩ = some (f (k * 2 + 1)) := (hb.cell (p := ⟨b, off + k * 2 + 1, none⟩) hbl).trans (by rw [Nat.add_assoc]; exact hcell (k * 2 + 1) (by omega))
      have HC := Lib.hid (HF.out k hlt wr hb hb.size)
      clear hcell
      go_wp2_with fail
      refine HC.out.mono ?_
      rintro e w1 ⟨rfl, hb1⟩
      have hb2 := hb.trans (hb1.mono hb.size)
      cases hp : p k
      · have HP := Lib.hid hp; clear hp
        go_wp2_with fail
        go_roundw
        case rel => exact ⟨k + 1, by omega, by go_num, fun j hj => by rcases Nat.lt_succ_iff_lt_or_eq.1 hj with h | h; exact hno.out j h; rw [h]; exact HP.out, hb2⟩
        case measure => simp [intOf]; omega
      · have HP := Lib.hid hp; clear hp
        go_wp2_with fail
        go_ret
        exact ⟨ret_int (firstB_some (Nat.zero_le _) (by omega) (fun j _ h => hno.out j h) HP.out).symm, hb2⟩
    · go_wp2_with fail
      go_ret
      exact ⟨ret_int (firstB_none (fun j _ h => hno.out j (by omega))).symm, hb⟩

theorem containsRuns_any (v : Value) (n : Nat) (g : Nat) (cap : Array Value) (p : Nat → Bool) (f : Nat → Value) (w : World) (h : SlAt w w.heap.size v n 2 f)
    (hf : Asks w.heap.size w g cap n (fun i => .agg #[f (i * 2), f (i * 2 + 1)]) p) :
    Calls Try.prog 39 #[v, .func (.func g) #[] cap] w fun e w' => e = .returned (.bool (anyB p n)) ∧ Below w.heap.size w w' := by
  have hg := firstB_any p n 0
  have HG := Lib.hid hg; clear hg
  have HC := Lib.hid (indexRuns_any v n g cap p f w h hf)
  clear h hf
  go_enter Try.func39, Try.ntmps39
  go_wp2_with fail
  refine HC.out.mono ?_
  rintro e w' ⟨rfl, hb⟩
  go_wp2
  go_ret
  exact ⟨ret_bool HG.out, hb⟩

def allB (p : Nat → Bool) (n : Nat) : Bool := !anyB (fun i => !p i) n
theorem allB_iff {p : Nat → Bool} {n : Nat} : allB p n = true ↔ ∀ i, i < n → p i = true := by
  simp [allB, anyB]

theorem everyRows_cl (v : Value) (g bx : Nat) (cap : Array Value) (q : Bool) (w : World) (hb : w.cell? ⟨bx, 0, none⟩ = some (.func (.func g) #[] cap)) (hcall : ∀ (args : Array Value) (w : World), (callFunc g args).run Try.prog w = .ok (.enter g args) w)
    (hf : Calls Try.prog g (#[v] ++ cap) w fun e w'' => e = .returned (.bool q) ∧ Below w.heap.size w w'') :
    Calls Try.prog 135 #[v, .pointer (some ⟨bx, 0, none⟩)] w fun e w' => e = .returned (.bool (!q)) ∧ Below w.heap.size w w' := by
  have HF := Lib.hid hf; clear hf
  go_enter Try.func135, Try.ntmps135
  go_wp2_with fail
  refine HF.out.mono ?_
  rintro e w1 ⟨rfl, hb1⟩
  go_wp2_with fail
  go_ret
  exact ⟨rfl, hb1⟩
theorem everyRows_any (v : Value) (n : Nat) (g : Nat) (cap : Array Value) (p : Nat → Bool) (f : Nat → Value) (w : World) (h : SlAt w w.heap.size v n 1 f)
    (hf : Asks w.heap.size w g cap n (fun i => f i) p) :
    Calls Try.prog 79 #[v, .func (.func g) #[] cap] w fun e w' => e = .returned (.bool (allB p n)) ∧ Below w.heap.size w w' := by
  have hbw : Below w.heap.size w (w.alloc (.cells #[.func (.func g) #[] cap] 114)) := (Below.refl _ _).alloc (Nat.le_refl _) _
  have hcell : (w.alloc (.cells #[.func (.func g) #[] cap] 114)).cell? ⟨w.heap.size, 0, none⟩ = some (.func (.func g) #[] cap) := by simp [go_sem]
  have HC := Lib.hid (containsRows_any v n 135 #[.pointer (some ⟨w.heap.size, 0, none⟩)] (fun i => !p i) f (w.alloc (.cells #[.func (.func g) #[] cap] 114)) ((h.below hbw (Nat.le_refl _)).mono (by simp)) (by
      refine ⟨Try.call135, fun i hi w' hw' hB => ?_⟩
      have hbox : w'.cell? ⟨w.heap.size, 0, none⟩ = some (.func (.func g) #[] cap) := (hw'.cell (p := ⟨w.heap.size, 0, none⟩) (by simp)).trans hcell
      exact everyRows_cl _ g w.heap.size cap (p i) w' hbox hf.1 (hf.2 i hi w' (hbw.trans (hw'.mono (by simp))) (by simp at hB; omega))))
  have HB := Lib.hid hbw
  clear h hf hcell hbw
  go_enter Try.func79, Try.ntmps79
  go_wp2_with fail
  refine HC.out.mono ?_
  rintro e w' ⟨rfl, hb⟩
  go_wp2_with fail
  go_ret
  exact ⟨rfl, HB.out.trans (hb.mono (by simp))⟩

theorem everyInts_cl (v : Value) (g bx : Nat) (cap : Array Value) (q : Bool) (w : World) (hb : w.cell? ⟨bx, 0, none⟩ = some (.func (.func g) #[] cap)) (hcall : ∀ (args : Array Value) (w : World), (callFunc g args).run Try.prog w = .ok (.enter g args) w)
    (hf : Calls Try.prog g (#[v] ++ cap) w fun e w'' => e = .returned (.bool q) ∧ Below w.heap.size w w'') :
    Calls Try.prog 136 #[v, .pointer (some ⟨bx, 0, none⟩)] w fun e w' => e = .returned (.bool (!q)) ∧ Below w.heap.size w w' := by
  have HF := Lib.hid hf; clear hf
  go_enter Try.func136, Try.ntmps136
  go_wp2_with fail
  refine HF.out.mono ?_
  rintro e w1 ⟨rfl, hb1⟩
  go_wp2_with fail
  go_ret
  exact ⟨rfl, hb1⟩
theorem everyInts_any (v : Value) (n : Nat) (g : Nat) (cap : Array Value) (p : Nat → Bool) (f : Nat → Value) (w : World) (h : SlAt w w.heap.size v n 1 f)
    (hf : Asks w.heap.size w g cap n (fun i => f i) p) :
    Calls Try.prog 81 #[v, .func (.func g) #[] cap] w fun e w' => e = .returned (.bool (allB p n)) ∧ Below w.heap.size w w' := by
  have hbw : Below w.heap.size w (w.alloc (.cells #[.func (.func g) #[] cap] 68)) := (Below.refl _ _).alloc (Nat.le_refl _) _
  have hcell : (w.alloc (.cells #[.func (.func g) #[] cap] 68)).cell? ⟨w.heap.size, 0, none⟩ = some (.func (.func g) #[] cap) := by simp [go_sem]
  have HC := Lib.hid (containsInts_any v n 136 #[.pointer (some ⟨w.heap.size, 0, none⟩)] (fun i => !p i) f (w.alloc (.cells #[.func (.func g) #[] cap] 68)) ((h.below hbw (Nat.le_refl _)).mono (by simp)) (by
      refine ⟨Try.call136, fun i hi w' hw' hB => ?_⟩
      have hbox : w'.cell? ⟨w.heap.size, 0, none⟩ = some (.func (.func g) #[] cap) := (hw'.cell (p := ⟨w.heap.size, 0, none⟩) (by simp)).trans hcell
      exact everyInts_cl _ g w.heap.size cap (p i) w' hbox hf.1 (hf.2 i hi w' (hbw.trans (hw'.mono (by simp))) (by simp at hB; omega))))
  have HB := Lib.hid hbw
  clear h hf hcell hbw
  go_enter Try.func81, Try.ntmps81
  go_wp2_with fail
  refine HC.out.mono ?_
  rintro e w' ⟨rfl, hb⟩
  go_wp2_with fail
  go_ret
  exact ⟨rfl, HB.out.trans (hb.mono (by simp))⟩

theorem everyRuns_cl (x y : Value) (g bx : Nat) (cap : Array Value) (q : Bool) (w : World) (hb : w.cell? ⟨bx, 0, none⟩ = some (.func (.func g) #[] cap)) (hcall : ∀ (args : Array Value) (w : World), (callFunc g args).run Try.prog w = .ok (.enter g args) w)
    (hf : Calls Try.prog g (#[.agg #[x, y]] ++ cap) (w.alloc (.cells #[x, y] 63)) fun e w'' => e = .returned (.bool q) ∧ Below (w.heap.size + 1) (w.alloc (.cells #[x, y] 63)) w'') :
    Calls Try.prog 137 #[.agg #[x, y], .pointer (some ⟨bx, 0, none⟩)] w fun e w' => e = .returned (.bool (!q)) ∧ Below w.heap.size w w' := by
  have HF := Lib.hid hf; clear hf
  have hb' : (w.alloc (.cells #[x, y] 63)).cell? ⟨bx, 0, none⟩ = some (.func (.func g) #[] cap) := by
    have hlt := block_lt_of_cell hb
    exact (((Below.refl w.heap.size w).alloc (Nat.le_refl _) _).cell (p := ⟨bx, 0, none⟩) hlt).trans hb
  clear hb
  go_enter Try.func137, Try.ntmps137
  go_wp2_with fail
  refine HF.out.mono ?_
  rintro e w1 ⟨rfl, hb1⟩
  go_wp2_with fail
  go_ret
  exact ⟨rfl, ((Below.refl _ _).alloc (Nat.le_refl _) _).trans (hb1.mono (by omega))⟩
theorem everyRuns_any (v : Value) (n : Nat) (g : Nat) (cap : Array Value) (p : Nat → Bool) (f : Nat → Value) (w : World) (h : SlAt w w.heap.size v n 2 f)
    (hf : Asks w.heap.size w g cap n (fun i => .agg #[f (i * 2), f (i * 2 + 1)]) p) :
    Calls Try.prog 84 #[v, .func (.func g) #[] cap] w fun e w' => e = .returned (.bool (allB p n)) ∧ Below w.heap.size w w' := by
  have hbw : Below w.heap.size w (w.alloc (.cells #[.func (.func g) #[] cap] 65)) := (Below.refl _ _).alloc (Nat.le_refl _) _
  have hcell : (w.alloc (.cells #[.func (.func g) #[] cap] 65)).cell? ⟨w.heap.size, 0, none⟩ = some (.func (.func g) #[] cap) := by simp [go_sem]
  have HC := Lib.hid (containsRuns_any v n 137 #[.pointer (some ⟨w.heap.size, 0, none⟩)] (fun i => !p i) f (w.alloc (.cells #[.func (.func g) #[] cap] 65)) ((h.below hbw (Nat.le_refl _)).mono (by simp)) (by
      refine ⟨Try.call137, fun i hi w' hw' hB => ?_⟩
      have hbox : w'.cell? ⟨w.heap.size, 0, none⟩ = some (.func (.func g) #[] cap) := (hw'.cell (p := ⟨w.heap.size, 0, none⟩) (by simp)).trans hcell
      have h2 := hf.2 i hi (w'.alloc (.cells #[f (i * 2), f (i * 2 + 1)] 63)) ((hbw.trans (hw'.mono (by simp))).trans ((Below.refl _ _).alloc (by simp at hB; omega) _)) (by simp at hB ⊢; omega)
      rw [World.size_alloc] at h2
      exact everyRuns_cl _ _ g w.heap.size cap (p i) w' hbox hf.1 h2))
  have HB := Lib.hid hbw
  clear h hf hcell hbw
  go_enter Try.func84, Try.ntmps84
  go_wp2_with fail
  refine HC.out.mono ?_
  rintro e w' ⟨rfl, hb⟩
  go_wp2_with fail
  go_ret
  exact ⟨rfl, HB.out.trans (hb.mono (by simp))⟩
end Go.Proofs.Ytnhifinfjfpoiaa

namespace Go.Proofs.Ytnhifinfjfpoiaa
open Go.RowKit Go.Maps
set_option linter.unusedVariables false

theorem runKeyed : Keyed Try.prog 63 := Keyed.of_law (deep_law_gate (by kernel_rfl) (of_decide_eq_true (by kernel_rfl)) (of_decide_eq_true (by kernel_rfl)) (by kernel_rfl) (by kernel_rfl))
def runVal (p : Int × Int) : Value := .agg #[.int .i64 p.1, .int .i64 p.2]
noncomputable def runKey (p : Int × Int) : Lit := (keyOf Try.prog 63 (runVal p)).getD .nil
theorem wfI {n : Int} (h : I64 n) : (Lit.int .i64 n).wf = true := WalkArith.wf_i64 h
theorem typesSize : Try.prog.types.size + 1 = (Try.prog.types.size - 1) + 2 := by kernel_rfl
theorem runCells : Try.prog.cellsOf 63 = 2 := by kernel_rfl
theorem intCells : Try.prog.cellsOf 3 = 1 := by kernel_rfl
theorem runKeyT : Try.prog.keyType 63 = true := by kernel_rfl
theorem keyLits_run (m : Nat) (x y : Int) (hx : (Lit.int .i64 x).wf = true) (hy : (Lit.int .i64 y).wf = true) : Try.prog.keyLits (m + 2) 63 [.int .i64 x, .int .i64 y] = some [.int .i64 x, .int .i64 y] := by
  have e3 : ∀ z, (Lit.int .i64 z).wf = true → Try.prog.keyLits (m + 1) 3 [.int .i64 z] = some [.int .i64 z] := by
    intro z hz
    unfold Program.keyLits
    rw [Try.underlying3]
    simp [hz]
  unfold Program.keyLits
  rw [Try.underlying63]
  simp [runCells, intCells, e3 x hx, e3 y hy]
theorem runFormed (p : Int × Int) : (runVal p).formed Try.prog 63 = true := by
  unfold runVal Value.formed
  simp [Try.underlying63, runCells]
theorem keyOf_run (x y : Int) (hx : (Lit.int .i64 x).wf = true) (hy : (Lit.int .i64 y).wf = true) : keyOf Try.prog 63 (runVal (x, y)) = some (.string (keyBytes [.int .i64 x, .int .i64 y])) := by
  unfold keyOf
  rw [Try.underlying63, runKeyT, runFormed, typesSize]
  simp only [Bool.and_self, if_true]
  have := keyLits_run (Try.prog.types.size - 1) x y hx hy
  unfold runVal Value.cells
  simp only []
  rw [this]
  rfl
theorem runKey_of (p : Int × Int) (h1 : I64 p.1) (h2 : I64 p.2) : keyOf Try.prog 63 (runVal p) = some (runKey p) := by
  obtain ⟨x, y⟩ := p
  unfold runKey
  rw [keyOf_run x y (wfI h1) (wfI h2)]
  simp only [Option.getD_some]
attribute [irreducible] runKey
theorem runKey_inj {p q : Int × Int} (hp1 : I64 p.1) (hp2 : I64 p.2) (hq1 : I64 q.1) (hq2 : I64 q.2) (h : runKey p = runKey q) : p = q := by
  have e := runKeyed.inj (runKey_of p hp1 hp2) (by rw [h]; exact runKey_of q hq1 hq2)
  obtain ⟨a, b⟩ := p
  obtain ⟨c, d⟩ := q
  simp [runVal] at e
  exact Prod.ext e.1 e.2

/-- Block b is a map from pairs to bools, of at most n entries, in which S says what is true. -/
def RunSet (w : World) (b n : Nat) (S : Int × Int → Bool) : Prop :=
  ∃ D : DataW Unit, w.ownsMap Try.prog 63 (plainElem Try.prog 4) b n D ∧ ∀ p : Int × Int, I64 p.1 → I64 p.2 → D.atKey (runKey p) (.lit (.bool false)) = .lit (.bool (S p))
theorem RunSet.made (w : World) : RunSet (w.alloc (.map #[] 0)) w.heap.size 0 (fun _ => false) :=
  ⟨.map [], World.ownsMap_made _ _ _ _, fun p _ _ => rfl⟩
theorem plainElem_bool_inv {H : Type} {P : Program} {e : TypeId} (he : P.underlying e = some .bool) {v : Value} {z : DataW H × List MemPlace} (h : plainElem P e v = some z) : ∃ x, v = .bool x ∧ z = (.lit (.bool x), []) := by
  unfold plainElem at h
  rw [he] at h
  cases v <;> simp at h
  rename_i x
  exact ⟨x, rfl, h.symm⟩
theorem RunSet.look {w : World} {b n : Nat} {S : Int × Int → Bool} (h : RunSet w b n S) (p : Int × Int) (h1 : I64 p.1) (h2 : I64 p.2) :
    (Instr.lookup 115 (.map (some b)) (runVal p) false).run Try.prog w = .ok (.bool (S p)) w := by
  obtain ⟨D, hown, hS⟩ := h
  obtain ⟨v, ps, hrun, hv⟩ := hown.lookup runKeyed Try.underlying115 (z := .bool false) (by kernel_rfl) (zd := .lit (.bool false)) (zp := []) (plainElem_bool Try.underlying4 false) (runKey_of p h1 h2)
  rw [hS p h1 h2] at hv
  obtain ⟨x, rfl, hx⟩ := plainElem_bool_inv Try.underlying4 hv
  simp at hx
  rw [hrun, hx.1]
theorem RunSet.put {w : World} {b n : Nat} {S : Int × Int → Bool} (h : RunSet w b n S) (hn : n < maxLen) (p : Int × Int) (h1 : I64 p.1) (h2 : I64 p.2) :
    ∃ w', (Instr.mapUpdate 115 (.map (some b)) (runVal p) (.bool true)).run Try.prog w = .ok () w' ∧ RunSet w' b (n + 1) (fun q => q == p || S q) ∧ w.grownBy w' (some b) := by
  obtain ⟨D, hown, hS⟩ := h
  obtain ⟨w', hrun, hown', hg⟩ := hown.update runKeyed Try.underlying115 hn (runKey_of p h1 h2) (plainElem_bool Try.underlying4 true)
  refine ⟨w', hrun, ⟨_, hown', fun q q1 q2 => ?_⟩, hg⟩
  by_cases e : q = p
  · subst e
    rw [Maps.atKey_put_same hown.isMap (runKeyed.key (runKey_of q h1 h2))]
    simp
  · rw [Maps.atKey_put_other (fun h => e (runKey_inj q1 q2 h1 h2 h)), hS q q1 q2]
    have : (q == p) = false := by simpa using e
    show _ = DataW.lit (Lit.bool (q == p || S q))
    rw [this, Bool.false_or]
theorem RunSet.kept {w w' : World} {b n : Nat} {S : Int × Int → Bool} (h : RunSet w b n S) (hb : Below (b + 1) w w') : RunSet w' b n S := by
  obtain ⟨D, ⟨es, clock, hh, r⟩, hS⟩ := h
  exact ⟨D, ⟨es, clock, (hb.block b (by omega)).trans hh, r⟩, hS⟩
end Go.Proofs.Ytnhifinfjfpoiaa

namespace Go.Proofs.Ytnhifinfjfpoiaa
open Go.RowKit

def badCount1 (c : Col) : Bool := !inB c.rooms.length 1 6 || c.traps.length != c.rooms.length || decide (12 < c.runs.length) || decide (6 < c.nights.length)
def okRow (c : Col) (i : Nat) : Bool := (nthR c.nights i).length == c.rooms.length
def badCount2 (c : Col) : Bool := !allB (okRow c) c.nights.length
def badRooms (c : Col) : Bool := !allB (fun i => inB (nth c.rooms i) 0 60) c.rooms.length
def badTraps (c : Col) : Bool := !allB (fun i => inB (nth c.traps i) 0 9) c.traps.length
def okNight (c : Col) (i h : Nat) : Bool := inB (nth (nthR c.nights i) h) 0 (nth c.traps h)
def badNights (c : Col) : Bool := !allB (fun i => allB (okNight c i) (nthR c.nights i).length) c.nights.length
def okRun (c : Col) (i : Nat) : Bool := inB (nthP c.runs i).1 0 (c.rooms.length - 1) && inB (nthP c.runs i).2 0 (c.rooms.length - 1)
def badRuns (c : Col) : Bool := !allB (okRun c) c.runs.length
def okTwice (c : Col) (i : Nat) : Bool := (nthP c.runs i).1 != (nthP c.runs i).2 && allB (fun k => !joinsB (nthP c.runs k) (nthP c.runs i).1 (nthP c.runs i).2) i
def badTwice (c : Col) : Bool := !allB (okTwice c) c.runs.length
def checkC (c : Col) : Int :=
  if badCount1 c then 3 else if badCount2 c then 3 else if badRooms c || badTraps c then 4 else if badNights c then 4 else if badRuns c then 2 else if badTwice c then 5 else 0

theorem allB_false {p : Nat → Bool} {n i : Nat} (h : i < n) (hp : p i = false) : allB p n = false := by
  cases ha : allB p n
  · rfl
  · rw [allB_iff] at ha; rw [ha i h] at hp; cases hp
theorem allB_true {p : Nat → Bool} {n : Nat} (h : ∀ i, i < n → p i = true) : allB p n = true := allB_iff.2 h

structure OkCol (c : Col) : Prop where
  houses : 1 ≤ c.rooms.length ∧ c.rooms.length ≤ 6
  traps : c.traps.length = c.rooms.length
  runs : c.runs.length ≤ 12
  nights : c.nights.length ≤ 6
  row : ∀ i, i < c.nights.length → (nthR c.nights i).length = c.rooms.length
  room : ∀ i, i < c.rooms.length → 0 ≤ nth c.rooms i ∧ nth c.rooms i ≤ 60
  trap : ∀ i, i < c.rooms.length → 0 ≤ nth c.traps i ∧ nth c.traps i ≤ 9
  night : ∀ i h, i < c.nights.length → h < c.rooms.length → 0 ≤ nth (nthR c.nights i) h ∧ nth (nthR c.nights i) h ≤ nth c.traps h
  run : ∀ i, i < c.runs.length → 0 ≤ (nthP c.runs i).1 ∧ (nthP c.runs i).1 < c.rooms.length ∧ 0 ≤ (nthP c.runs i).2 ∧ (nthP c.runs i).2 < c.rooms.length
  differ : ∀ i, i < c.runs.length → (nthP c.runs i).1 ≠ (nthP c.runs i).2
  once : ∀ i k, i < c.runs.length → k < i → joinsB (nthP c.runs k) (nthP c.runs i).1 (nthP c.runs i).2 = false

theorem okCol_of {c : Col} (h : checkC c = 0) : OkCol c := by
  unfold checkC at h
  by_cases b1 : badCount1 c = true
  · rw [if_pos b1] at h; cases h
  rw [if_neg b1] at h
  by_cases b2 : badCount2 c = true
  · rw [if_pos b2] at h; cases h
  rw [if_neg b2] at h
  by_cases b3 : (badRooms c || badTraps c) = true
  · rw [if_pos b3] at h; cases h
  rw [if_neg b3] at h
  by_cases b4 : badNights c = true
  · rw [if_pos b4] at h; cases h
  rw [if_neg b4] at h
  by_cases b5 : badRuns c = true
  · rw [if_pos b5] at h; cases h
  rw [if_neg b5] at h
  by_cases b6 : badTwice c = true
  · rw [if_pos b6] at h; cases h
  simp only [badCount1, Bool.or_eq_true, Bool.not_eq_true', bne_iff_ne, decide_eq_true_eq, not_or, Bool.not_eq_false, Decidable.not_not, Nat.not_lt] at b1
  obtain ⟨⟨⟨a1, a2⟩, a3⟩, a4⟩ := b1
  have a1 := inB_true a1
  simp only [badCount2, Bool.not_eq_true', Bool.not_eq_false, allB_iff, okRow, beq_iff_eq] at b2
  simp only [badRooms, badTraps, Bool.or_eq_true, not_or, Bool.not_eq_true', Bool.not_eq_false, allB_iff] at b3
  simp only [badNights, Bool.not_eq_true', Bool.not_eq_false, allB_iff, okNight] at b4
  simp only [badRuns, Bool.not_eq_true', Bool.not_eq_false, allB_iff, okRun, Bool.and_eq_true] at b5
  simp only [badTwice, Bool.not_eq_true', Bool.not_eq_false, allB_iff, okTwice, Bool.and_eq_true, bne_iff_ne] at b6
  exact { houses := by omega, traps := a2, runs := a3, nights := a4, row := b2, room := fun i hi => inB_true (b3.1 i hi), trap := fun i hi => inB_true (b3.2 i (by omega)),
          night := fun i h hi hh => inB_true (b4 i hi h (by rw [b2 i hi]; exact hh)),
          run := fun i hi => by have x := inB_true (b5 i hi).1; have y := inB_true (b5 i hi).2; omega,
          differ := fun i hi => (b6 i hi).1, once := fun i k hi hk => by have := (b6 i hi).2 k hk; simpa using this }
end Go.Proofs.Ytnhifinfjfpoiaa

namespace Go.Proofs.Ytnhifinfjfpoiaa
open Go.RowKit
set_option linter.unusedVariables false

theorem ints_ext {a b : List Int} (h : a.length = b.length) (k : ∀ j, j < a.length → nth a j = nth b j) : a = b := by
  refine List.ext_getElem h fun i h1 h2 => ?_
  have := k i h1
  rwa [nth_eq h1, nth_eq h2] at this
theorem pairs_ext {a b : List (Int × Int)} (h : a.length = b.length) (k : ∀ j, j < a.length → nthP a j = nthP b j) : a = b := by
  refine List.ext_getElem h fun i h1 h2 => ?_
  have := k i h1
  rwa [nthP_eq h1, nthP_eq h2] at this
theorem rows_ext {a b : List (List Int)} (h : a.length = b.length) (k : ∀ j, j < a.length → nthR a j = nthR b j) : a = b := by
  refine List.ext_getElem h fun i h1 h2 => ?_
  have := k i h1
  rwa [nthR_eq h1, nthR_eq h2] at this

set_option maxHeartbeats 1000000 in
theorem alike_any (a b : List Int) (va vb : Value) (w : World) (ha : IsInts w w.heap.size va a) (hb : IsInts w w.heap.size vb b) :
    Calls Try.prog 26 #[va, vb] w fun e w' => e = .returned (.bool (decide (a = b))) ∧ w = w' := by
  obtain ⟨aa, ca, rfl, a1, a2, a3⟩ := ha.open
  obtain ⟨ab, cb, rfl, b1, b2, b3⟩ := hb.open
  have HA := Lib.hid a3; have HB := Lib.hid b3
  clear ha hb a3 b3
  by_cases hl : a.length = b.length
  · rw [← hl] at HB b1 b2 ⊢
    have HL := Lib.hid hl; clear hl
    go_enter Try.func26, Try.ntmps26
    go_wp2_with fail
    go_loopw [14] (fun i wr => ∃ k : Nat, k ≤ a.length ∧ i = .int .i64 k ∧ Hid (∀ j, j < k → nth a j = nth b j) ∧ w = wr) (fun i _ => a.length - (intOf i).toNat)
    case atStart => exact ⟨0, Nat.zero_le _, rfl, fun j hj => by omega, rfl⟩
    case round =>
      obtain ⟨k, hk, rfl, hdone, rfl⟩ := hrel
      by_cases hlt : k < a.length
      · have hki : (k : Int) < a.length := by omega
        obtain ⟨ba, oa, rfl, la, m1⟩ := HA.out k hlt
        obtain ⟨bb, ob, rfl, lb, m2⟩ := HB.out k hlt
        cases hq : (nth a k == nth b k)
        · have HQ := Lib.hid hq
          go_wp2_with fail
          go_ret
          refine ⟨ret_bool ?_, rfl⟩
          rw [eq_comm, decide_eq_false_iff_not]
          intro e
          have := HQ.out
          rw [e] at this
          simp at this
        · have HQ := Lib.hid hq
          go_wp2_with fail
          go_roundw
          case rel =>
            refine ⟨k + 1, by omega, by go_num, fun j hj => ?_, by simp⟩
            rcases Nat.lt_succ_iff_lt_or_eq.1 hj with q | q
            · exact hdone.out j q
            · subst q
              have := HQ.out
              simpa using this
          case measure => simp [intOf]; omega
      · obtain rfl : k = a.length := by omega
        go_wp2_with fail
        go_ret
        refine ⟨ret_bool ?_, rfl⟩
        rw [eq_comm, decide_eq_true_iff]
        exact ints_ext HL.out hdone.out
  · have HL := Lib.hid hl
    have e2 : (a.length == b.length) = false := by simpa using hl
    go_enter Try.func26, Try.ntmps26
    go_wp2_with fail
    go_ret
    exact ⟨ret_bool (by rw [eq_comm, decide_eq_false_iff_not]; intro e; exact HL.out (by rw [e])), rfl⟩

set_option maxHeartbeats 1000000 in
theorem alikeRows_any (a b : List (List Int)) (va vb : Value) (w : World) (ha : IsRows w w.heap.size va a) (hb : IsRows w w.heap.size vb b) :
    Calls Try.prog 73 #[va, vb] w fun e w' => e = .returned (.bool (decide (a = b))) ∧ w = w' := by
  obtain ⟨aa, ca, rfl, a1, a2, a3⟩ := ha.open
  obtain ⟨ab, cb, rfl, b1, b2, b3⟩ := hb.open
  have HA := Lib.hid a3; have HB := Lib.hid b3
  clear ha hb a3 b3
  by_cases hl : a.length = b.length
  · rw [← hl] at HB b1 b2 ⊢
    have HL := Lib.hid hl; clear hl
    go_enter Try.func73, Try.ntmps73
    go_wp2_with fail
    go_loopw [14] (fun i wr => ∃ k : Nat, k ≤ a.length ∧ i = .int .i64 k ∧ Hid (∀ j, j < k → nthR a j = nthR b j) ∧ w = wr) (fun i _ => a.length - (intOf i).toNat)
    case atStart => exact ⟨0, Nat.zero_le _, rfl, fun j hj => by omega, rfl⟩
    case round =>
      obtain ⟨k, hk, rfl, hdone, rfl⟩ := hrel
      by_cases hlt : k < a.length
      · have hki : (k : Int) < a.length := by omega
        obtain ⟨ba, oa, ua, rfl, la, m1, ra⟩ := HA.out k hlt
        obtain ⟨bb, ob, ub, rfl, lb, m2, rb⟩ := HB.out k hlt
        have HC := Lib.hid (alike_any _ _ _ _ w ra rb)
        obtain ⟨_, _, rfl, _⟩ := ra.open
        obtain ⟨_, _, rfl, _⟩ := rb.open
        clear ra rb
        cases hq : decide (nthR a k = nthR b k)
        · rw [hq] at HC
          have HQ := Lib.hid hq
          clear hq
          go_wp2_with (go_at_call 26; refine HC.out.mono ?_; rintro e w5 ⟨rfl, rfl⟩)
          go_ret
          refine ⟨ret_bool ?_, rfl⟩
          rw [eq_comm, decide_eq_false_iff_not]
          intro e
          have := HQ.out
          rw [e] at this
          simp at this
        · rw [hq] at HC
          have HQ := Lib.hid hq
          clear hq
          go_wp2_with (go_at_call 26; refine HC.out.mono ?_; rintro e w5 ⟨rfl, rfl⟩)
          go_roundw
          case rel =>
            refine ⟨k + 1, by omega, by go_num, fun j hj => ?_, by simp⟩
            rcases Nat.lt_succ_iff_lt_or_eq.1 hj with q | q
            · exact hdone.out j q
            · subst q
              have := HQ.out
              simpa using this
          case measure => simp [intOf]; omega
      · obtain rfl : k = a.length := by omega
        go_wp2_with fail
        go_ret
        refine ⟨ret_bool ?_, rfl⟩
        rw [eq_comm, decide_eq_true_iff]
        exact rows_ext HL.out hdone.out
  · have HL := Lib.hid hl
    have e2 : (a.length == b.length) = false := by simpa using hl
    go_enter Try.func73, Try.ntmps73
    go_wp2_with fail
    go_ret
    exact ⟨ret_bool (by rw [eq_comm, decide_eq_false_iff_not]; intro e; exact HL.out (by rw [e])), rfl⟩

theorem neq_Span (w : World) (a b c d : Int) : (binOp .neq 49 (.agg #[.int .i64 a, .int .i64 b]) (.agg #[.int .i64 c, .int .i64 d])).run Try.prog w = .ok (.bool (!(a == c && b == d))) w := by
  have h1 : Try.prog.underlying 49 = some (.struct (Try.prog.fieldsOf 49)) := by kernel_rfl
  have h2 : Try.prog.stoodInHeld 49 = false := by kernel_rfl
  have h3 : (Try.prog.fieldsOf 49).toList.map (fun f => (f.name == "_", f.type, f.offset)) = [(false, 3, 0), (false, 3, 1)] := by kernel_rfl
  have h4 : Try.prog.underlying 3 = some (.int .i64) := Try.underlying3
  rw [run_neq_struct, run_equalIn_struct w 9999 _ _ _ h1 h2]
  obtain ⟨f, g, e1, e2, e3, e4, e5, e6, e7⟩ : ∃ f g : Field, (Try.prog.fieldsOf 49).toList = [f, g] ∧ f.name ≠ "_" ∧ g.name ≠ "_" ∧ f.type = 3 ∧ g.type = 3 ∧ f.offset = 0 ∧ g.offset = 1 := by
    rcases h : (Try.prog.fieldsOf 49).toList with _ | ⟨f, _ | ⟨g, _ | ⟨x, l⟩⟩⟩
    all_goals rw [h] at h3; simp at h3
    exact ⟨f, g, rfl, h3.1.1, h3.2.1, h3.1.2.1, h3.2.2.1, h3.1.2.2, h3.2.2.2⟩
  rw [e1]
  have p0 : ∀ (x y : Int) (w : World), (part 3 #[Value.int .i64 x, .int .i64 y] 0).run Try.prog w = .ok (.int .i64 x) w := fun _ _ _ => by kernel_rfl
  have p1 : ∀ (x y : Int) (w : World), (part 3 #[Value.int .i64 x, .int .i64 y] 1).run Try.prog w = .ok (.int .i64 y) w := fun _ _ _ => by kernel_rfl
  have q1 := fun (x y : Int) (w : World) => run_equalIn_int (P := Try.prog) w 9998 3 .i64 .i64 x y h4
  cases hac : a == c <;> cases hbd : b == d <;> simp [Op.eqFields, e2, e3, e4, e5, e6, e7, p0, p1, q1, hac, hbd]

set_option maxRecDepth 100000 in
set_option maxHeartbeats 1000000 in
theorem alikeSpan_any (a b : List (Int × Int)) (va vb : Value) (w : World) (ha : IsPairs w w.heap.size va a) (hb : IsPairs w w.heap.size vb b) :
    Calls Try.prog 71 #[va, vb] w fun e w' => e = .returned (.bool (decide (a = b))) ∧ Below w.heap.size w w' := by
  obtain ⟨aa, ca, rfl, a1, a2, a3⟩ := ha.open
  obtain ⟨ab, cb, rfl, b1, b2, b3⟩ := hb.open
  have HA := Lib.hid a3; have HB := Lib.hid b3
  clear ha hb a3 b3
  by_cases hl : a.length = b.length
  · rw [← hl] at HB b1 b2 ⊢
    have HL := Lib.hid hl; clear hl
    go_enter Try.func71, Try.ntmps71
    go_wp2_with fail
    go_loopw [14] (fun i wr => ∃ k : Nat, k ≤ a.length ∧ i = .int .i64 k ∧ Hid (∀ j, j < k → nthP a j = nthP b j) ∧ Hid (Below w.heap.size w wr)) (fun i _ => a.length - (intOf i).toNat)
    case atStart => exact ⟨0, Nat.zero_le _, rfl, fun j hj => by omega, Below.refl _ _⟩
    case round =>
      obtain ⟨k, hk, rfl, hdone, hB⟩ := hrel
      by_cases hlt : k < a.length
      · have hki : (k : Int) < a.length := by omega
        obtain ⟨ba, oa, rfl, la, ma1, ma2⟩ := HA.out k hlt
        obtain ⟨bb, ob, rfl, lb, mb1, mb2⟩ := HB.out k hlt
        have m1 := (hB.out.cell (p := ⟨ba, oa + k * 2, none⟩) la).trans ma1
        have m2 := (hB.out.cell (p := ⟨ba, oa + k * 2 + 1, none⟩) la).trans ma2
        have m3 := (hB.out.cell (p := ⟨bb, ob + k * 2, none⟩) lb).trans mb1
        have m4 := (hB.out.cell (p := ⟨bb, ob + k * 2 + 1, none⟩) lb).trans mb2
        have hB2 : Below w.heap.size w (wr.alloc (.cells #[.int .i64 (nthP a k).1, .int .i64 (nthP a k).2] 49)) := hB.out.alloc hB.out.size _
        have n1 := (((Below.refl wr.heap.size wr).alloc (Nat.le_refl _) (.cells #[.int .i64 (nthP a k).1, .int .i64 (nthP a k).2] 49)).cell (p := ⟨bb, ob + k * 2, none⟩) (Nat.lt_of_lt_of_le lb hB.out.size)).trans m3
        have n2 := (((Below.refl wr.heap.size wr).alloc (Nat.le_refl _) (.cells #[.int .i64 (nthP a k).1, .int .i64 (nthP a k).2] 49)).cell (p := ⟨bb, ob + k * 2 + 1, none⟩) (Nat.lt_of_lt_of_le lb hB.out.size)).trans m4
        have hs1 : (wr.alloc (.cells #[.int .i64 (nthP a k).1, .int .i64 (nthP a k).2] 49)).cell? ⟨wr.heap.size, 0, none⟩ = some (.int .i64 (nthP a k).1) := by simp [go_sem]
        have hs2 : (wr.alloc (.cells #[.int .i64 (nthP a k).1, .int .i64 (nthP a k).2] 49)).cell? ⟨wr.heap.size, 1, none⟩ = some (.int .i64 (nthP a k).2) := by simp [go_sem]
        have HB2 := Lib.hid hB2
        have hneq := fun w => neq_Span w (nthP a k).1 (nthP a k).2 (nthP b k).1 (nthP b k).2
        have HNE := Lib.hid hneq
        clear ma1 ma2 mb1 mb2 hB2 m3 m4 hneq
        go_wp2_with fail
        obtain ⟨W, hW⟩ : ∃ W, wr.alloc (.cells #[.int .i64 (nthP a k).1, .int .i64 (nthP a k).2] 49) = W := ⟨_, rfl⟩
        rw [hW] at n1 n2 hs1 hs2 HB2 ⊢
        clear hW m1 m2
        have hneq := HNE.out
        cases hq : ((nthP a k).1 == (nthP b k).1 && (nthP a k).2 == (nthP b k).2)
        · have HQ := Lib.hid hq
          simp only [hq] at hneq
          clear hq
          go_quiet (fail)
          go_wp2_with fail
          go_ret
          refine ⟨ret_bool ?_, Below.drewN HB2.out _⟩
          rw [eq_comm, decide_eq_false_iff_not]
          intro e
          have := HQ.out
          rw [e] at this
          simp at this
        · have HQ := Lib.hid hq
          simp only [hq] at hneq
          clear hq
          go_quiet (fail)
          go_wp2_with fail
          go_roundw
          case rel =>
            refine ⟨k + 1, by omega, by go_num, fun j hj => ?_, Below.drewN HB2.out _⟩
            rcases Nat.lt_succ_iff_lt_or_eq.1 hj with q | q
            · exact hdone.out j q
            · subst q
              have := HQ.out
              simp at this
              exact Prod.ext this.1 this.2
          case measure => simp [intOf]; omega
      · obtain rfl : k = a.length := by omega
        go_wp2_with fail
        go_ret
        refine ⟨ret_bool ?_, hB.out⟩
        rw [eq_comm, decide_eq_true_iff]
        exact pairs_ext HL.out hdone.out
  · have e1 : ¬ (a.length : Int) = b.length := by omega
    have HL := Lib.hid hl
    have e2 : (a.length == b.length) = false := by simpa using hl
    go_enter Try.func71, Try.ntmps71
    go_wp2_with fail
    go_ret
    exact ⟨ret_bool (by rw [eq_comm, decide_eq_false_iff_not]; intro e; exact HL.out (by rw [e])), Below.refl _ _⟩

theorem neq_Run (w : World) (a b c d : Int) : (binOp .neq 63 (.agg #[.int .i64 a, .int .i64 b]) (.agg #[.int .i64 c, .int .i64 d])).run Try.prog w = .ok (.bool (!(a == c && b == d))) w := by
  have h1 : Try.prog.underlying 63 = some (.struct (Try.prog.fieldsOf 63)) := by kernel_rfl
  have h2 : Try.prog.stoodInHeld 63 = false := by kernel_rfl
  have h3 : (Try.prog.fieldsOf 63).toList.map (fun f => (f.name == "_", f.type, f.offset)) = [(false, 3, 0), (false, 3, 1)] := by kernel_rfl
  have h4 : Try.prog.underlying 3 = some (.int .i64) := Try.underlying3
  rw [run_neq_struct, run_equalIn_struct w 9999 _ _ _ h1 h2]
  obtain ⟨f, g, e1, e2, e3, e4, e5, e6, e7⟩ : ∃ f g : Field, (Try.prog.fieldsOf 63).toList = [f, g] ∧ f.name ≠ "_" ∧ g.name ≠ "_" ∧ f.type = 3 ∧ g.type = 3 ∧ f.offset = 0 ∧ g.offset = 1 := by
    rcases h : (Try.prog.fieldsOf 63).toList with _ | ⟨f, _ | ⟨g, _ | ⟨x, l⟩⟩⟩
    all_goals rw [h] at h3; simp at h3
    exact ⟨f, g, rfl, h3.1.1, h3.2.1, h3.1.2.1, h3.2.2.1, h3.1.2.2, h3.2.2.2⟩
  rw [e1]
  have p0 : ∀ (x y : Int) (w : World), (part 3 #[Value.int .i64 x, .int .i64 y] 0).run Try.prog w = .ok (.int .i64 x) w := fun _ _ _ => by kernel_rfl
  have p1 : ∀ (x y : Int) (w : World), (part 3 #[Value.int .i64 x, .int .i64 y] 1).run Try.prog w = .ok (.int .i64 y) w := fun _ _ _ => by kernel_rfl
  have q1 := fun (x y : Int) (w : World) => run_equalIn_int (P := Try.prog) w 9998 3 .i64 .i64 x y h4
  cases hac : a == c <;> cases hbd : b == d <;> simp [Op.eqFields, e2, e3, e4, e5, e6, e7, p0, p1, q1, hac, hbd]

set_option maxRecDepth 100000 in
set_option maxHeartbeats 1000000 in
theorem alikeRun_any (a b : List (Int × Int)) (va vb : Value) (w : World) (ha : IsPairs w w.heap.size va a) (hb : IsPairs w w.heap.size vb b) :
    Calls Try.prog 96 #[va, vb] w fun e w' => e = .returned (.bool (decide (a = b))) ∧ Below w.heap.size w w' := by
  obtain ⟨aa, ca, rfl, a1, a2, a3⟩ := ha.open
  obtain ⟨ab, cb, rfl, b1, b2, b3⟩ := hb.open
  have HA := Lib.hid a3; have HB := Lib.hid b3
  clear ha hb a3 b3
  by_cases hl : a.length = b.length
  · rw [← hl] at HB b1 b2 ⊢
    have HL := Lib.hid hl; clear hl
    go_enter Try.func96, Try.ntmps96
    go_wp2_with fail
    go_loopw [14] (fun i wr => ∃ k : Nat, k ≤ a.length ∧ i = .int .i64 k ∧ Hid (∀ j, j < k → nthP a j = nthP b j) ∧ Hid (Below w.heap.size w wr)) (fun i _ => a.length - (intOf i).toNat)
    case atStart => exact ⟨0, Nat.zero_le _, rfl, fun j hj => by omega, Below.refl _ _⟩
    case round =>
      obtain ⟨k, hk, rfl, hdone, hB⟩ := hrel
      by_cases hlt : k < a.length
      · have hki : (k : Int) < a.length := by omega
        obtain ⟨ba, oa, rfl, la, ma1, ma2⟩ := HA.out k hlt
        obtain ⟨bb, ob, rfl, lb, mb1, mb2⟩ := HB.out k hlt
        have m1 := (hB.out.cell (p := ⟨ba, oa + k * 2, none⟩) la).trans ma1
        have m2 := (hB.out.cell (p := ⟨ba, oa + k * 2 + 1, none⟩) la).trans ma2
        have m3 := (hB.out.cell (p := ⟨bb, ob + k * 2, none⟩) lb).trans mb1
        have m4 := (hB.out.cell (p := ⟨bb, ob + k * 2 + 1, none⟩) lb).trans mb2
        have hB2 : Below w.heap.size w (wr.alloc (.cells #[.int .i64 (nthP a k).1, .int .i64 (nthP a k).2] 63)) := hB.out.alloc hB.out.size _
        have n1 := (((Below.refl wr.heap.size wr).alloc (Nat.le_refl _) (.cells #[.int .i64 (nthP a k).1, .int .i64 (nthP a k).2] 63)).cell (p := ⟨bb, ob + k * 2, none⟩) (Nat.lt_of_lt_of_le lb hB.out.size)).trans m3
        have n2 := (((Below.refl wr.heap.size wr).alloc (Nat.le_refl _) (.cells #[.int .i64 (nthP a k).1, .int .i64 (nthP a k).2] 63)).cell (p := ⟨bb, ob + k * 2 + 1, none⟩) (Nat.lt_of_lt_of_le lb hB.out.size)).trans m4
        have hs1 : (wr.alloc (.cells #[.int .i64 (nthP a k).1, .int .i64 (nthP a k).2] 63)).cell? ⟨wr.heap.size, 0, none⟩ = some (.int .i64 (nthP a k).1) := by simp [go_sem]
        have hs2 : (wr.alloc (.cells #[.int .i64 (nthP a k).1, .int .i64 (nthP a k).2] 63)).cell? ⟨wr.heap.size, 1, none⟩ = some (.int .i64 (nthP a k).2) := by simp [go_sem]
        have HB2 := Lib.hid hB2
        have hneq := fun w => neq_Run w (nthP a k).1 (nthP a k).2 (nthP b k).1 (nthP b k).2
        have HNE := Lib.hid hneq
        clear ma1 ma2 mb1 mb2 hB2 m3 m4 hneq
        go_wp2_with fail
        obtain ⟨W, hW⟩ : ∃ W, wr.alloc (.cells #[.int .i64 (nthP a k).1, .int .i64 (nthP a k).2] 63) = W := ⟨_, rfl⟩
        rw [hW] at n1 n2 hs1 hs2 HB2 ⊢
        clear hW m1 m2
        have hneq := HNE.out
        cases hq : ((nthP a k).1 == (nthP b k).1 && (nthP a k).2 == (nthP b k).2)
        · have HQ := Lib.hid hq
          simp only [hq] at hneq
          clear hq
          go_quiet (fail)
          go_wp2_with fail
          go_ret
          refine ⟨ret_bool ?_, Below.drewN HB2.out _⟩
          rw [eq_comm, decide_eq_false_iff_not]
          intro e
          have := HQ.out
          rw [e] at this
          simp at this
        · have HQ := Lib.hid hq
          simp only [hq] at hneq
          clear hq
          go_quiet (fail)
          go_wp2_with fail
          go_roundw
          case rel =>
            refine ⟨k + 1, by omega, by go_num, fun j hj => ?_, Below.drewN HB2.out _⟩
            rcases Nat.lt_succ_iff_lt_or_eq.1 hj with q | q
            · exact hdone.out j q
            · subst q
              have := HQ.out
              simp at this
              exact Prod.ext this.1 this.2
          case measure => simp [intOf]; omega
      · obtain rfl : k = a.length := by omega
        go_wp2_with fail
        go_ret
        refine ⟨ret_bool ?_, hB.out⟩
        rw [eq_comm, decide_eq_true_iff]
        exact pairs_ext HL.out hdone.out
  · have e1 : ¬ (a.length : Int) = b.length := by omega
    have HL := Lib.hid hl
    have e2 : (a.length == b.length) = false := by simpa using hl
    go_enter Try.func96, Try.ntmps96
    go_wp2_with fail
    go_ret
    exact ⟨ret_bool (by rw [eq_comm, decide_eq_false_iff_not]; intro e; exact HL.out (by rw [e])), Below.refl _ _⟩
end Go.Proofs.Ytnhifinfjfpoiaa
