/- Plain law of sets of houses: what covers, and what is apart, bit by bit. Plain law: the first list of houses of which it is so, in the order in which the reference tries them, is the best of all sets. Contract of the reference's reaches. Contracts of the reference's list and Reaches. -/
import Derived.Test.YtnhifinfjfpoiaaGreatK08
import Derived.Test.YtnhifinfjfpoiaaGreatK02
import Derived.Test.YtnhifinfjfpoiaaGreatK13
namespace Go.Proofs.YtnhifinfjfpoiaaGreat
open Go.RowKit
set_option linter.unusedVariables false
set_option linter.unusedSimpArgs false

theorem bit6 {m x : Nat} (hm : m < 64) (h : m.testBit x = true) : x < 6 := by
  refine Classical.byContradiction fun e => ?_
  have : m < 2 ^ x := Nat.lt_of_lt_of_le hm (by have := Nat.pow_le_pow_right (n := 2) (by decide) (show 6 ≤ x by omega); simpa using this)
  rw [Nat.testBit_lt_two_pow this] at h
  cases h
theorem reachAcc_bit (c : Col) (j : Nat) : ∀ (l : List Nat) (a : Nat), (reachAcc c a l).testBit j = (a.testBit j || l.any fun o => (nearC c o).testBit j)
  | [], a => by simp [reachAcc]
  | x :: l, a => by
    show (reachAcc c (orN a (nearC c x)) l).testBit j = _
    rw [reachAcc_bit c j l, orN_bit, List.any_cons, Bool.or_assoc]
/-- A set of which it is so. -/
def validB (all : Nat) (q : Nat → Bool) (s : Nat) : Bool := subsetN s all && q s
theorem subset_bits_fin : ∀ a b : Fin 64, subsetN a.val b.val = true ↔ ∀ x, x < 6 → a.val.testBit x = true → b.val.testBit x = true := by decide +kernel
theorem subset_bits {a b : Nat} (ha : a < 64) (hb : b < 64) : subsetN a b = true ↔ ∀ x, a.testBit x = true → b.testBit x = true :=
  (subset_bits_fin ⟨a, ha⟩ ⟨b, hb⟩).trans ⟨fun h x hx => h x (bit6 ha hx) hx, fun h x _ hx => h x hx⟩
theorem one_bits_fin : ∀ m : Fin 64, (m.val &&& (m.val - 1) == 0) = true ↔ ∀ x, x < 6 → ∀ y, y < 6 → m.val.testBit x = true → m.val.testBit y = true → x = y := by decide +kernel
theorem one_bits {s t : Nat} (hs : s < 64) : oneB s t = true ↔ ∀ x y, s.testBit x = true → t.testBit x = true → s.testBit y = true → t.testBit y = true → x = y := by
  have hm : s &&& t < 64 := and_lt hs
  refine (one_bits_fin ⟨s &&& t, hm⟩).trans ⟨fun h x y a b c d => ?_, fun h x _ y _ a b => ?_⟩
  · exact h x (bit6 hs a) y (bit6 hs c) (by show (s &&& t).testBit x = true; rw [Nat.testBit_and, a, b]; rfl) (by show (s &&& t).testBit y = true; rw [Nat.testBit_and, c, d]; rfl)
  · have a' : (s &&& t).testBit x = true := a
    have b' : (s &&& t).testBit y = true := b
    rw [Nat.testBit_and, Bool.and_eq_true] at a' b'
    exact h x y a'.1 a'.2 b'.1 b'.2
theorem posTo_bit (l : List Int) (x : Nat) : ∀ k, (posTo l k).testBit x = true ↔ x < k ∧ 0 < nth l x
  | 0 => by simp [posTo]
  | k + 1 => by
    unfold posTo
    by_cases e : 0 < nth l k
    · rw [if_pos e, orN_bit, Bool.or_eq_true, posTo_bit l x k, pw_bit, beq_iff_eq]
      constructor
      · rintro (h | h)
        · exact ⟨by omega, h.2⟩
        · subst h; exact ⟨by omega, e⟩
      · rintro ⟨h1, h2⟩
        by_cases c : k = x
        · exact .inr c
        · exact .inl ⟨by omega, h2⟩
    · rw [if_neg e, posTo_bit l x k]
      constructor
      · rintro ⟨h1, h2⟩; exact ⟨by omega, h2⟩
      · rintro ⟨h1, h2⟩
        refine ⟨?_, h2⟩
        by_cases c : x = k
        · rw [c] at h2; exact absurd h2 e
        · omega
theorem coverAcc_bit (c : Col) (R x : Nat) (l : List Nat) : (coverAcc c R l).testBit x = true ↔ ∃ o, o ∈ l ∧ (reachN c o R).testBit x = true := by
  have key : ∀ (l : List Nat) (a : Nat), (l.foldl (fun acc h => orN acc (reachN c h R)) a).testBit x = true ↔ a.testBit x = true ∨ ∃ o, o ∈ l ∧ (reachN c o R).testBit x = true := by
    intro l
    induction l with
    | nil => intro a; simp
    | cons y l ih =>
      intro a
      rw [List.foldl_cons, ih, orN_bit, Bool.or_eq_true]
      constructor
      · rintro ((h | h) | ⟨o, h1, h2⟩)
        · exact .inl h
        · exact .inr ⟨y, by simp, h⟩
        · exact .inr ⟨o, by simp [h1], h2⟩
      · rintro (h | ⟨o, h1, h2⟩)
        · exact .inl (.inl h)
        · rcases List.mem_cons.1 h1 with rfl | h1
          · exact .inl (.inr h2)
          · exact .inr ⟨o, h1, h2⟩
  unfold coverAcc
  rw [key]; simp
theorem all_bits_fin : ∀ n : Fin 7, ∀ x, x < 6 → ((allN n.val).testBit x = true ↔ x < n.val) := by decide +kernel
theorem all_bits {n : Nat} (h : n ≤ 6) (x : Nat) : (allN n).testBit x = true ↔ x < n := by
  constructor
  · intro hx
    exact (all_bits_fin ⟨n, by omega⟩ x (bit6 (allN_lt h) hx)).1 hx
  · intro hx
    exact (all_bits_fin ⟨n, by omega⟩ x (by omega)).2 hx
theorem cover_iff {c : Col} (ok : OkCol c) {R s : Nat} (hs : s < 64) : validB (allN c.rooms.length) (coverB c R (posC c)) s = true ↔
    (∀ x, s.testBit x = true → x < c.rooms.length) ∧ ∀ x, x < c.rooms.length → 0 < nth (afterC c) x → ∃ b, s.testBit b = true ∧ (reachN c b R).testBit x = true := by
  have o2 := ok.houses.2
  unfold validB coverB
  rw [Bool.and_eq_true, subset_bits hs (allN_lt o2), subset_bits (show posC c < 64 from posTo_lt _ _ o2) (coverAcc_lt c R _ (fun h hh => (mem_members.1 hh).1))]
  constructor
  · rintro ⟨h1, h2⟩
    refine ⟨fun x hx => (all_bits o2 x).1 (h1 x hx), fun x hx hp => ?_⟩
    have := h2 x ((posTo_bit _ x _).2 ⟨hx, hp⟩)
    rw [coverAcc_bit] at this
    obtain ⟨b, e1, e2⟩ := this
    exact ⟨b, (mem_members.1 e1).2, e2⟩
  · rintro ⟨h1, h2⟩
    refine ⟨fun x hx => (all_bits o2 x).2 (h1 x hx), fun x hx => ?_⟩
    obtain ⟨a, b⟩ := (posTo_bit _ x _).1 hx
    obtain ⟨o, e1, e2⟩ := h2 x a b
    rw [coverAcc_bit]
    exact ⟨o, mem_members.2 ⟨bit6 hs e1, e1⟩, e2⟩
theorem apart_iff {c : Col} (ok : OkCol c) {R s : Nat} (hs : s < 64) : validB (posC c) (apartB c R) s = true ↔
    (∀ x, s.testBit x = true → x < c.rooms.length ∧ 0 < nth (afterC c) x) ∧ ∀ h, h < c.rooms.length → ∀ x y, s.testBit x = true → (reachN c h R).testBit x = true → s.testBit y = true → (reachN c h R).testBit y = true → x = y := by
  have o2 := ok.houses.2
  unfold validB apartB
  rw [Bool.and_eq_true, subset_bits hs (show posC c < 64 from posTo_lt _ _ o2), allB_iff]
  constructor
  · rintro ⟨h1, h2⟩
    exact ⟨fun x hx => (posTo_bit _ x _).1 (h1 x hx), fun h hh => (one_bits hs).1 (h2 h hh)⟩
  · rintro ⟨h1, h2⟩
    exact ⟨fun x hx => (posTo_bit _ x _).2 (h1 x hx), fun h hh => (one_bits hs).2 (h2 h hh)⟩
theorem reach_self (c : Col) (h : Nat) : ∀ R, (reachN c h R).testBit h = true
  | 0 => by show (pw h).testBit h = true; rw [pw_bit]; simp
  | R + 1 => by
    show (reachAcc c (reachN c h R) (members (reachN c h R))).testBit h = true
    rw [reachAcc_bit, reach_self c h R]; rfl
theorem reach_more (c : Col) (h R x : Nat) (hx : (reachN c h R).testBit x = true) : (reachN c h (R + 1)).testBit x = true := by
  show (reachAcc c (reachN c h R) (members (reachN c h R))).testBit x = true
  rw [reachAcc_bit, hx]; rfl
theorem cover_ex {c : Col} (ok : OkCol c) (R : Nat) : ∃ s, s < 64 ∧ validB (allN c.rooms.length) (coverB c R (posC c)) s = true :=
  ⟨allN c.rooms.length, allN_lt ok.houses.2, (cover_iff ok (allN_lt ok.houses.2)).2 ⟨fun x hx => (all_bits ok.houses.2 x).1 hx, fun x hx _ => ⟨x, (all_bits ok.houses.2 x).2 hx, reach_self c x R⟩⟩⟩
theorem apart_ex {c : Col} (ok : OkCol c) (R : Nat) : ∃ s, s < 64 ∧ validB (posC c) (apartB c R) s = true :=
  ⟨0, by decide, (apart_iff ok (by decide)).2 ⟨fun x hx => by simp at hx, fun h _ x y hx => by simp at hx⟩⟩
end Go.Proofs.YtnhifinfjfpoiaaGreat

namespace Go.Proofs.YtnhifinfjfpoiaaGreat
open Go.RowKit
set_option linter.unusedVariables false
set_option linter.unusedSimpArgs false

/-- The first house that may stand behind some others. -/
def fromOf (l : List Nat) : Nat := match l.getLast? with | none => 0 | some x => x + 1
/-- All lists of so many further houses behind some others, in order. -/
def enumL (n : Nat) : Nat → List Nat → List (List Nat)
  | 0, l => [l]
  | m + 1, l => (List.range n).flatMap fun h => if fromOf l ≤ h then enumL n m (l ++ [h]) else []
def fewOrder (n : Nat) : List (List Nat) := (List.range (n + 1)).flatMap fun m => enumL n m []
def manyOrder (n : Nat) : List (List Nat) := (List.range (n + 1)).flatMap fun m => enumL n (n - m) []
/-- The first one of which it is so. -/
def chooseC (n : Nat) (T : List Nat → Bool) (m : Nat) (l : List Nat) : Option (List Nat) := (enumL n m l).find? T
theorem chooseC_zero (n : Nat) (T : List Nat → Bool) (l : List Nat) : chooseC n T 0 l = if T l = true then some l else none := by
  unfold chooseC enumL
  cases h : T l <;> simp [h]
/-- The first house up to k with which there is one. -/
def chooseTo (n : Nat) (T : List Nat → Bool) (m : Nat) (l : List Nat) (k : Nat) : Option (List Nat) := (List.range k).findSome? fun h => if fromOf l ≤ h then chooseC n T m (l ++ [h]) else none
theorem chooseC_succ (n : Nat) (T : List Nat → Bool) (m : Nat) (l : List Nat) : chooseC n T (m + 1) l = chooseTo n T m l n := by
  unfold chooseTo
  conv => lhs; unfold chooseC; unfold enumL
  rw [List.find?_flatMap]
  congr 1
  funext h
  by_cases e : fromOf l ≤ h
  · rw [if_pos e, if_pos e]; rfl
  · rw [if_neg e, if_neg e]; rfl
theorem chooseTo_from (n : Nat) (T : List Nat → Bool) (m : Nat) (l : List Nat) : ∀ k, k ≤ fromOf l → chooseTo n T m l k = none
  | 0, _ => rfl
  | k + 1, h => by
    unfold chooseTo
    rw [List.range_succ, List.findSome?_append, show List.findSome? _ (List.range k) = none from chooseTo_from n T m l k (by omega)]
    simp
    intro h2
    omega
theorem chooseTo_none {n : Nat} {T : List Nat → Bool} {m : Nat} {l : List Nat} {k : Nat} (h : chooseTo n T m l k = none) (hc : chooseC n T m (l ++ [k]) = none) : chooseTo n T m l (k + 1) = none := by
  unfold chooseTo at h ⊢
  rw [List.range_succ, List.findSome?_append, h]
  simp [hc]
theorem chooseTo_some {n : Nat} {T : List Nat → Bool} {m : Nat} {l : List Nat} {k : Nat} {x : List Nat} (h : chooseTo n T m l k = none) (hk : k < n) (hf : fromOf l ≤ k) (hc : chooseC n T m (l ++ [k]) = some x) : chooseC n T (m + 1) l = some x := by
  rw [chooseC_succ]
  have h1 : chooseTo n T m l (k + 1) = some x := by
    unfold chooseTo at h ⊢
    rw [List.range_succ, List.findSome?_append, h]
    simp [hc, hf]
  have key : ∀ d, chooseTo n T m l (k + 1 + d) = some x := by
    intro d
    induction d with
    | zero => exact h1
    | succ d ih =>
      show chooseTo n T m l (k + 1 + d + 1) = _
      unfold chooseTo at ih ⊢
      rw [List.range_succ, List.findSome?_append, ih]
      rfl
  have := key (n - (k + 1))
  rwa [show k + 1 + (n - (k + 1)) = n by omega] at this

/-- Houses as a set. -/
def maskL (l : List Nat) : Nat := l.foldl (fun a h => a ||| 2 ^ h) 0
theorem few_sorted : ∀ n : Fin 7, (fewOrder n.val).Pairwise (fun a b => fewB (natsI a) (natsI b) = true) := by decide +kernel
theorem many_sorted : ∀ n : Fin 7, (manyOrder n.val).Pairwise (fun a b => manyB (natsI a) (natsI b) = true) := by decide +kernel
theorem few_masks : ∀ n : Fin 7, ∀ l ∈ fewOrder n.val, maskL l < 2 ^ n.val ∧ members (maskL l) = l := by decide +kernel
theorem many_masks : ∀ n : Fin 7, ∀ l ∈ manyOrder n.val, maskL l < 2 ^ n.val ∧ members (maskL l) = l := by decide +kernel
theorem few_all : ∀ n : Fin 7, ∀ s, s < 2 ^ n.val → members s ∈ fewOrder n.val := by decide +kernel
theorem many_all : ∀ n : Fin 7, ∀ s, s < 2 ^ n.val → members s ∈ manyOrder n.val := by decide +kernel
def fewRank (s : Nat) : Nat := (fewOrder 6).idxOf (members s)
def manyRank (s : Nat) : Nat := (manyOrder 6).idxOf (members s)
theorem few_rank : ∀ a b : Fin 64, fewB (natsI (members a.val)) (natsI (members b.val)) = decide (fewRank a.val < fewRank b.val) := by decide +kernel
theorem many_rank : ∀ a b : Fin 64, manyB (natsI (members a.val)) (natsI (members b.val)) = decide (manyRank a.val < manyRank b.val) := by decide +kernel
theorem few_inj : ∀ a b : Fin 64, fewRank a.val = fewRank b.val → a = b := by decide +kernel
theorem many_inj : ∀ a b : Fin 64, manyRank a.val = manyRank b.val → a = b := by decide +kernel

/-- The best of all sets, by a rank. -/
structure TopIs (κ : Nat → Nat) (all : Nat) (q : Nat → Bool) (k : Nat) (st : Bool × List Int) : Prop where
  none : st.1 = false → st.2 = [] ∧ ∀ s, s < k → validB all q s = false
  some : st.1 = true → ∃ s, s < k ∧ validB all q s = true ∧ st.2 = natsI (members s) ∧ ∀ s', s' < k → validB all q s' = true → κ s ≤ κ s'
theorem top_is {better : List Int → List Int → Bool} {κ : Nat → Nat} (h : ∀ a b : Fin 64, better (natsI (members a.val)) (natsI (members b.val)) = decide (κ a.val < κ b.val)) (all : Nat) (q : Nat → Bool) : ∀ k, k ≤ 64 → TopIs κ all q k (bestTo better all q k)
  | 0, _ => ⟨fun _ => ⟨rfl, fun s hs => by omega⟩, fun h => by cases h⟩
  | k + 1, hk => by
    have ih := top_is h all q k (by omega)
    rw [bestTo_succ]
    obtain ⟨st, hst⟩ : ∃ st, bestTo better all q k = st := ⟨_, rfl⟩
    rw [hst] at ih ⊢
    have hv : validB all q k = (subsetN k all && q k) := rfl
    unfold bestStep
    rw [← hv]
    cases v : validB all q k
    · simp only [Bool.false_eq_true, if_false]
      refine ⟨fun e => ⟨(ih.none e).1, fun s hs => ?_⟩, fun e => ?_⟩
      · by_cases c : s = k
        · rw [c]; exact v
        · exact (ih.none e).2 s (by omega)
      · obtain ⟨s, a, b, c, d⟩ := ih.some e
        refine ⟨s, by omega, b, c, fun s' hs' hv' => ?_⟩
        by_cases c' : s' = k
        · rw [c', v] at hv'; cases hv'
        · exact d s' (by omega) hv'
    · simp only [if_true]
      cases f : st.1
      · simp only [Bool.not_false, Bool.true_or, if_true]
        refine ⟨fun e => (by cases e), fun _ => ⟨k, by omega, v, rfl, fun s' hs' hv' => ?_⟩⟩
        by_cases c' : s' = k
        · rw [c']; exact Nat.le_refl _
        · have := (ih.none f).2 s' (by omega)
          rw [this] at hv'; cases hv'
      · obtain ⟨s, a, b, c, d⟩ := ih.some f
        simp only [Bool.not_true, Bool.false_or]
        have hr := h ⟨k, by omega⟩ ⟨s, by omega⟩
        rw [← c] at hr
        simp only at hr
        cases g : better (natsI (members k)) st.2
        · simp only [Bool.false_eq_true, if_false]
          rw [g] at hr
          have hr2 : ¬ κ k < κ s := of_decide_eq_false hr.symm
          refine ⟨fun e => (by rw [f] at e; cases e), fun _ => ⟨s, by omega, b, c, fun s' hs' hv' => ?_⟩⟩
          by_cases c' : s' = k
          · rw [c']; omega
          · exact d s' (by omega) hv'
        · simp only [if_true]
          rw [g] at hr
          have hr2 : κ k < κ s := of_decide_eq_true hr.symm
          refine ⟨fun e => (by cases e), fun _ => ⟨k, by omega, v, rfl, fun s' hs' hv' => ?_⟩⟩
          by_cases c' : s' = k
          · rw [c']; exact Nat.le_refl _
          · have := d s' (by omega) hv'
            omega
/-- The first list in an order that is the rank's is the best set. -/
theorem first_best {better : List Int → List Int → Bool} {κ : Nat → Nat} (h : ∀ a b : Fin 64, better (natsI (members a.val)) (natsI (members b.val)) = decide (κ a.val < κ b.val))
    {n : Nat} (hn : n ≤ 6) {L : List (List Nat)} (hs : L.Pairwise (fun a b => better (natsI a) (natsI b) = true)) (hm : ∀ l ∈ L, maskL l < 2 ^ n ∧ members (maskL l) = l) (ha : ∀ s, s < 2 ^ n → members s ∈ L)
    {all : Nat} {q : Nat → Bool} {T : List Nat → Bool} (hall : ∀ s, s < 64 → validB all q s = true → s < 2 ^ n) (hT : ∀ s, s < 2 ^ n → T (members s) = validB all q s) (hex : ∃ s, s < 64 ∧ validB all q s = true) :
    ∃ l, L.find? T = some l ∧ bestF better all q = natsI l := by
  have hp : 2 ^ n ≤ 64 := by
    have := Nat.pow_le_pow_right (show 0 < 2 by omega) hn
    simpa using this
  have b := top_is h all q 64 (Nat.le_refl _)
  obtain ⟨s0, h0, h1⟩ := hex
  cases f : (bestTo better all q 64).1
  · have := (b.none f).2 s0 h0
    rw [this] at h1; cases h1
  · obtain ⟨s, a, v, e, d⟩ := b.some f
    have sn := hall s a v
    have ms := ha s sn
    have tv : T (members s) = true := by rw [hT s sn]; exact v
    cases g : L.find? T with
    | none =>
      have := List.find?_eq_none.1 g _ ms
      exact absurd tv this
    | some l =>
      refine ⟨l, rfl, ?_⟩
      obtain ⟨tl, us, bs, hL, hno⟩ := List.find?_eq_some_iff_append.1 g
      have ml : l ∈ L := by rw [hL]; simp
      obtain ⟨k1, k2⟩ := hm l ml
      have vl : validB all q (maskL l) = true := by rw [← hT _ k1, k2]; exact tl
      have hle := d _ (by omega) vl
      have e2 : bestF better all q = natsI (members s) := e
      rw [e2]
      rw [hL] at ms hs
      rcases List.mem_append.1 ms with m1 | m1
      · have := hno _ m1
        rw [tv] at this; cases this
      · rcases List.mem_cons.1 m1 with m2 | m2
        · rw [m2]
        · have hp2 := (List.pairwise_cons.1 (List.pairwise_append.1 hs).2.1).1 _ m2
          have hr := h ⟨maskL l, by omega⟩ ⟨s, a⟩
          simp only at hr
          rw [k2, hp2] at hr
          have : κ (maskL l) < κ s := of_decide_eq_true hr.symm
          omega
/-- The first number for which there is one. -/
theorem few_first {n : Nat} {T : List Nat → Bool} {l : List Nat} (h : (fewOrder n).find? T = some l) : ∃ m, m ≤ n ∧ chooseC n T m [] = some l ∧ ∀ k, k < m → chooseC n T k [] = none := by
  unfold fewOrder at h
  rw [List.find?_flatMap] at h
  have key : ∀ k, (List.range k).findSome? (fun x => (enumL n x []).find? T) = some l → ∃ m, m < k ∧ chooseC n T m [] = some l ∧ ∀ j, j < m → chooseC n T j [] = none := by
    intro k
    induction k with
    | zero => intro h; simp at h
    | succ k ih =>
      intro h
      rw [List.range_succ, List.findSome?_append] at h
      cases g : (List.range k).findSome? (fun x => (enumL n x []).find? T) with
      | some y =>
        rw [g] at h
        obtain ⟨m, a, b, c⟩ := ih (by rw [g]; simpa using h)
        exact ⟨m, by omega, b, c⟩
      | none =>
        rw [g] at h
        refine ⟨k, Nat.lt_succ_self _, by simpa [chooseC] using h, fun j hj => ?_⟩
        exact (List.findSome?_eq_none_iff.1 g) j (List.mem_range.2 hj)
  obtain ⟨m, a, b, c⟩ := key _ h
  exact ⟨m, by omega, b, c⟩
theorem many_first {n : Nat} {T : List Nat → Bool} {l : List Nat} (h : (manyOrder n).find? T = some l) : ∃ m, m ≤ n ∧ chooseC n T m [] = some l ∧ ∀ k, m < k → k ≤ n → chooseC n T k [] = none := by
  unfold manyOrder at h
  rw [List.find?_flatMap] at h
  have key : ∀ k, (List.range k).findSome? (fun x => (enumL n (n - x) []).find? T) = some l → ∃ m, m < k ∧ chooseC n T (n - m) [] = some l ∧ ∀ j, j < m → chooseC n T (n - j) [] = none := by
    intro k
    induction k with
    | zero => intro h; simp at h
    | succ k ih =>
      intro h
      rw [List.range_succ, List.findSome?_append] at h
      cases g : (List.range k).findSome? (fun x => (enumL n (n - x) []).find? T) with
      | some y =>
        rw [g] at h
        obtain ⟨m, a, b, c⟩ := ih (by rw [g]; simpa using h)
        exact ⟨m, by omega, b, c⟩
      | none =>
        rw [g] at h
        refine ⟨k, Nat.lt_succ_self _, by simpa [chooseC] using h, fun j hj => ?_⟩
        exact (List.findSome?_eq_none_iff.1 g) j (List.mem_range.2 hj)
  obtain ⟨m, a, b, c⟩ := key _ h
  refine ⟨n - m, by omega, b, fun k hk hkn => ?_⟩
  have := c (n - k) (by omega)
  rwa [show n - (n - k) = k by omega] at this

/-- The reference's test of baits, and of houses that are apart. -/
def coversC (c : Col) (R : Nat) (l : List Nat) : Bool := allB (fun h => !decide (1 ≤ nth (afterC c) h) || l.any fun o => (reachN c o R).testBit h) c.rooms.length
def separateC (c : Col) (R : Nat) (l : List Nat) : Bool :=
  allB (fun i => decide (1 ≤ nth (afterC c) (l.getD i 0)) && allB (fun k => allB (fun h => !((reachN c h R).testBit (l.getD i 0) && (reachN c h R).testBit (l.getD k 0))) c.rooms.length) i) l.length
theorem covers_valid {c : Col} (ok : OkCol c) (R : Nat) {s : Nat} (hs : s < 2 ^ c.rooms.length) : coversC c R (members s) = validB (allN c.rooms.length) (coverB c R (posC c)) s := by
  have o2 := ok.houses.2
  have hp : 2 ^ c.rooms.length ≤ 64 := by
    have := Nat.pow_le_pow_right (show 0 < 2 by omega) o2
    simpa using this
  rw [Bool.eq_iff_iff, cover_iff ok (by omega)]
  unfold coversC
  rw [allB_iff]
  have hin : ∀ x, s.testBit x = true → x < c.rooms.length := fun x hx => by
    rcases Nat.lt_or_ge x c.rooms.length with h | h
    · exact h
    · rw [Nat.testBit_lt_two_pow (Nat.lt_of_lt_of_le hs (Nat.pow_le_pow_right (by omega) h))] at hx; cases hx
  constructor
  · intro h
    refine ⟨hin, fun x hx hp => ?_⟩
    have := h x hx
    rw [decide_eq_true (show 1 ≤ nth (afterC c) x by omega)] at this
    simp only [Bool.not_true, Bool.false_or, List.any_eq_true] at this
    obtain ⟨o, h1, h2⟩ := this
    exact ⟨o, (mem_members.1 h1).2, h2⟩
  · rintro ⟨_, h⟩ x hx
    by_cases hp : 1 ≤ nth (afterC c) x
    · obtain ⟨b, h1, h2⟩ := h x hx (by omega)
      rw [decide_eq_true hp]
      simp only [Bool.not_true, Bool.false_or, List.any_eq_true]
      exact ⟨b, mem_members.2 ⟨by have := hin b h1; omega, h1⟩, h2⟩
    · rw [decide_eq_false hp]; rfl
theorem separate_valid {c : Col} (ok : OkCol c) (R : Nat) {s : Nat} (hs : s < 2 ^ c.rooms.length) : separateC c R (members s) = validB (posC c) (apartB c R) s := by
  have o2 := ok.houses.2
  have hp : 2 ^ c.rooms.length ≤ 64 := by
    have := Nat.pow_le_pow_right (show 0 < 2 by omega) o2
    simpa using this
  rw [Bool.eq_iff_iff, apart_iff ok (by omega)]
  unfold separateC
  rw [allB_iff]
  have hin : ∀ x, s.testBit x = true → x < c.rooms.length := fun x hx => by
    rcases Nat.lt_or_ge x c.rooms.length with h | h
    · exact h
    · rw [Nat.testBit_lt_two_pow (Nat.lt_of_lt_of_le hs (Nat.pow_le_pow_right (by omega) h))] at hx; cases hx
  have hget : ∀ i (hi : i < (members s).length), (members s).getD i 0 = (members s)[i] := fun i hi => by simp [hi]
  have hnd : (members s).Pairwise (· < ·) := by
    unfold members
    exact List.Pairwise.filter _ List.pairwise_lt_range
  constructor
  · intro h
    have key : ∀ i (hi : i < (members s).length), 1 ≤ nth (afterC c) (members s)[i] ∧ ∀ k, k < i → ∀ h, h < c.rooms.length → ¬ ((reachN c h R).testBit (members s)[i] = true ∧ (reachN c h R).testBit ((members s).getD k 0) = true) := by
      intro i hi
      have := h i hi
      rw [Bool.and_eq_true, hget i hi, allB_iff] at this
      refine ⟨of_decide_eq_true this.1, fun k hk h hh hb => ?_⟩
      have := this.2 k hk
      rw [allB_iff] at this
      have := this h hh
      rw [hb.1, hb.2] at this
      cases this
    refine ⟨fun x hx => ⟨hin x hx, ?_⟩, fun h hh x y hx hrx hy hry => ?_⟩
    · obtain ⟨i, hi, e⟩ := List.getElem_of_mem (mem_members.2 ⟨by have := hin x hx; omega, hx⟩)
      have := (key i hi).1
      rw [e] at this; omega
    · obtain ⟨i, hi, ei⟩ := List.getElem_of_mem (mem_members.2 ⟨by have := hin x hx; omega, hx⟩)
      obtain ⟨k, hk, ek⟩ := List.getElem_of_mem (mem_members.2 ⟨by have := hin y hy; omega, hy⟩)
      rcases Nat.lt_trichotomy i k with q | q | q
      · exact absurd ⟨by rw [ek]; exact hry, by rw [hget i hi, ei]; exact hrx⟩ ((key k hk).2 i q h hh)
      · subst q; rw [← ei, ← ek]
      · exact absurd ⟨by rw [ei]; exact hrx, by rw [hget k hk, ek]; exact hry⟩ ((key i hi).2 k q h hh)
  · rintro ⟨h1, h2⟩ i hi
    have mi := (mem_members.1 (List.getElem_mem hi)).2
    rw [Bool.and_eq_true, hget i hi, allB_iff]
    refine ⟨decide_eq_true (by have := (h1 _ mi).2; omega), fun k hk => ?_⟩
    rw [allB_iff]
    intro h hh
    rw [hget k (by omega)]
    have mk := (mem_members.1 (List.getElem_mem (show k < (members s).length by omega))).2
    have hlt : (members s)[k] < (members s)[i] := List.pairwise_iff_getElem.1 hnd k i (by omega) hi hk
    cases ha : (reachN c h R).testBit (members s)[i] <;> cases hb : (reachN c h R).testBit (members s)[k] <;> simp
    have := h2 h hh _ _ mi ha mk hb
    omega
theorem two_all (n : Nat) : ∀ s, subsetN s (allN n) = true → n ≤ 6 → s < 64 → s < 2 ^ n := by
  intro s h hn hs
  have h2 := (subset_bits hs (allN_lt hn)).1 h
  refine Nat.lt_of_not_le fun hle => ?_
  obtain ⟨i, hi, hb⟩ := Nat.exists_ge_and_testBit_of_ge_two_pow hle
  have := (all_bits hn i).1 (h2 i hb)
  omega
/-- The reference's baits are the program's. -/
theorem baits_first {c : Col} (ok : OkCol c) (R : Nat) : ∃ l m, m ≤ c.rooms.length ∧ chooseC c.rooms.length (coversC c R) m [] = some l ∧ (∀ k, k < m → chooseC c.rooms.length (coversC c R) k [] = none) ∧ baitsC c R = natsI l := by
  have o2 := ok.houses.2
  obtain ⟨l, h1, h2⟩ := first_best few_rank o2 (few_sorted ⟨_, by omega⟩) (few_masks ⟨_, by omega⟩) (few_all ⟨_, by omega⟩) (all := allN c.rooms.length) (q := coverB c R (posC c)) (T := coversC c R)
    (fun s hs hv => two_all _ s (by unfold validB at hv; rw [Bool.and_eq_true] at hv; exact hv.1) o2 hs) (fun s hs => covers_valid ok R hs) (cover_ex ok R)
  obtain ⟨m, a, b, d⟩ := few_first h1
  exact ⟨l, m, a, b, d, h2⟩
theorem apart_first {c : Col} (ok : OkCol c) (R : Nat) : ∃ l m, m ≤ c.rooms.length ∧ chooseC c.rooms.length (separateC c R) m [] = some l ∧ (∀ k, m < k → k ≤ c.rooms.length → chooseC c.rooms.length (separateC c R) k [] = none) ∧ apartC c R = natsI l := by
  have o2 := ok.houses.2
  obtain ⟨l, h1, h2⟩ := first_best many_rank o2 (many_sorted ⟨_, by omega⟩) (many_masks ⟨_, by omega⟩) (many_all ⟨_, by omega⟩) (all := posC c) (q := apartB c R) (T := separateC c R)
    (fun s hs hv => Nat.lt_of_not_le fun hle => by
      obtain ⟨i, hi, hb⟩ := Nat.exists_ge_and_testBit_of_ge_two_pow hle
      have := ((apart_iff ok hs).1 hv).1 i hb
      omega) (fun s hs => separate_valid ok R hs) (apart_ex ok R)
  obtain ⟨m, a, b, d⟩ := many_first h1
  exact ⟨l, m, a, b, d, h2⟩
end Go.Proofs.YtnhifinfjfpoiaaGreat

namespace Go.Proofs.YtnhifinfjfpoiaaGreat
open Go.RowKit
set_option linter.unusedVariables false
set_option linter.unusedSimpArgs false

/-- Block b: n marks, and perhaps more. -/
def BlBlk (w : World) (b n : Nat) (f : Nat → Bool) : Prop :=
  ∃ A : Array Value, w.heap[b]? = some (.cells A 4 (0, 0)) ∧ n ≤ A.size ∧ ∀ j, j < n → A[j]? = some (.bool (f j))
theorem BlBlk.cell {w : World} {b n : Nat} {f : Nat → Bool} (h : BlBlk w b n f) {j : Nat} (hj : j < n) : w.cell? ⟨b, j, none⟩ = some (.bool (f j)) := by
  obtain ⟨A, h1, h2, h3⟩ := h
  exact (cell_of_row w b _ _ _ _ h1).trans (h3 j hj)
theorem BlBlk.free {w : World} {b n : Nat} {f : Nat → Bool} (h : BlBlk w b n f) (j : Nat) : w.frozen? ⟨b, j, none⟩ = false := by
  obtain ⟨A, h1, _, _⟩ := h
  exact frozen_of_row w b _ _ _ h1
theorem BlBlk.lt {w : World} {b n : Nat} {f : Nat → Bool} (h : BlBlk w b n f) : b < w.heap.size := by
  obtain ⟨A, h1, _, _⟩ := h
  exact (Array.getElem?_eq_some_iff.1 h1).1
theorem BlBlk.same {w : World} {b n : Nat} {f f' : Nat → Bool} (h : BlBlk w b n f) (e : ∀ j, j < n → f j = f' j) : BlBlk w b n f' := by
  obtain ⟨A, h1, h2, h3⟩ := h
  exact ⟨A, h1, h2, fun j hj => by rw [← e j hj]; exact h3 j hj⟩
theorem BlBlk.below {w w' : World} {b n B : Nat} {f : Nat → Bool} (h : BlBlk w b n f) (hb : Below B w w') (hB : b < B) : BlBlk w' b n f := by
  obtain ⟨A, h1, h2⟩ := h
  exact ⟨A, (hb.block b hB).trans h1, h2⟩
theorem BlBlk.on {w w' : World} {b n : Nat} {f : Nat → Bool} (h : BlBlk w b n f) (hb : Below w.heap.size w w') : BlBlk w' b n f := h.below hb h.lt
theorem BlBlk.set {w : World} {b n : Nat} {f : Nat → Bool} (h : BlBlk w b n f) {k : Nat} (x : Bool) (hk : k < n) : BlBlk (w.setCell ⟨b, k, none⟩ (.bool x)) b n (fun j => if j = k then x else f j) := by
  obtain ⟨A, h1, h2, h3⟩ := h
  refine ⟨A.setIfInBounds k (.bool x), heap_setCell_same w b _ _ _ _ h1, by simp [h2], fun j hj => ?_⟩
  rw [Array.getElem?_setIfInBounds]
  by_cases e : j = k
  · subst e; simp; omega
  · rw [if_neg (fun h => e h.symm)]
    show A[j]? = some (.bool (if j = k then x else f j))
    rw [if_neg e]; exact h3 j hj
theorem BlBlk.of {w : World} {b n : Nat} {l : List Bool} {f : Nat → Bool} (h : BoolsAt w b l) (hl : l.length = n) (e : ∀ j, j < n → nthB l j = f j) : BlBlk w b n f := by
  refine ⟨_, h, by simp [bw]; omega, fun j hj => ?_⟩
  have := h.cell j (by omega)
  rw [cell_of_row _ _ _ _ _ _ h] at this
  rw [this, e j hj]
/-- Marks, as values. -/
def boolsV (n : Nat) (f : Nat → Bool) : List Value := (List.range n).map fun j => Value.bool (f j)
theorem boolsV_len (n : Nat) (f : Nat → Bool) : (boolsV n f).length = n := by simp [boolsV]
theorem boolsV_get {n : Nat} {f : Nat → Bool} {j : Nat} {z : Value} (h : (boolsV n f)[j]? = some z) : j < n ∧ z = .bool (f j) := by
  have hj : j < n := by have := (List.getElem?_eq_some_iff.1 h).1; rwa [boolsV_len] at this
  refine ⟨hj, ?_⟩
  simp [boolsV, hj] at h
  exact h.symm
theorem BlBlk.owns {w : World} {B g n cap : Nat} {f : Nat → Bool} (h : w.ownsRow B 4 1 (.slice (some ⟨g, 0, none⟩) n cap) n (boolsV n f)) : BlBlk w g n f ∧ n ≤ cap ∧ B ≤ g := by
  obtain ⟨_, ⟨e, _⟩ | ⟨g', cap', cur, e, hb, hg, hn, hm, hs, ht⟩⟩ := h
  · cases e
  · cases e
    refine ⟨⟨cur, hg, by omega, fun j hj => ?_⟩, hn, hb⟩
    rw [Nat.mul_one] at ht
    have h6 : (List.take n cur.toList)[j]? = (boolsV n f)[j]? := by rw [ht]
    rw [List.getElem?_take, if_pos hj, Array.getElem?_toList] at h6
    rw [h6]; simp [boolsV, hj]

/-- Where a bait reaches, while the next round is under way. -/
def nx (F : Nat → Bool) (c : Col) (a b j : Nat) : Bool := F j || anyB (fun x => F x && goesB c x j) (if j < b then a + 1 else a)
theorem nx_zero (F : Nat → Bool) (c : Col) (j : Nat) : nx F c 0 0 j = F j := by unfold nx; simp [anyB]
theorem nx_row (F : Nat → Bool) (c : Col) {n a j : Nat} (hj : j < n) : nx F c a n j = nx F c (a + 1) 0 j := by
  unfold nx; rw [if_pos hj, if_neg (Nat.not_lt_zero _)]
theorem nx_set {F : Nat → Bool} {c : Col} {a b : Nat} {X : Bool} (h : X = (nx F c a b b || (F a && goesB c a b))) (j : Nat) : (if j = b then X else nx F c a b j) = nx F c a (b + 1) j := by
  by_cases e : j = b
  · subst e
    rw [if_pos rfl, h]
    unfold nx
    rw [if_neg (Nat.lt_irrefl _), if_pos (Nat.lt_succ_self _), anyB_succ, Bool.or_assoc]
  · rw [if_neg e]
    unfold nx
    by_cases c : j < b
    · rw [if_pos c, if_pos (by omega)]
    · rw [if_neg c, if_neg (by omega)]
theorem reach_rooms {c : Col} (ok : OkCol c) {h : Nat} (hh : h < c.rooms.length) : ∀ R {x : Nat}, (reachN c h R).testBit x = true → x < c.rooms.length
  | 0, x, hx => by
    have : (pw h).testBit x = true := hx
    rw [pw_bit, beq_iff_eq] at this
    omega
  | R + 1, x, hx => by
    have n6 := ok.houses.2
    have : (reachAcc c (reachN c h R) (members (reachN c h R))).testBit x = true := hx
    rw [reachAcc_bit, Bool.or_eq_true, List.any_eq_true] at this
    rcases this with e | ⟨o, ho, e⟩
    · exact reach_rooms ok hh R e
    · exact near_in ok (reach_rooms ok hh R (mem_members.1 ho).2) (bit6 (nearC_lt c o) e) e
theorem reach_next {c : Col} (ok : OkCol c) {h : Nat} (hh : h < c.rooms.length) (k : Nat) {j : Nat} (hj : j < c.rooms.length) :
    nx (fun j => (reachN c h k).testBit j) c c.rooms.length 0 j = (reachN c h (k + 1)).testBit j := by
  have n6 := ok.houses.2
  unfold nx
  rw [if_neg (Nat.not_lt_zero _)]
  have e : (reachN c h (k + 1)).testBit j = (reachAcc c (reachN c h k) (members (reachN c h k))).testBit j := rfl
  rw [e, reachAcc_bit]
  congr 1
  rw [Bool.eq_iff_iff, anyB_ex, List.any_eq_true]
  constructor
  · rintro ⟨a, ha, hb⟩
    rw [Bool.and_eq_true] at hb
    exact ⟨a, mem_members.2 ⟨by omega, hb.1⟩, by rw [nearC_bit ha (by omega)]; exact hb.2⟩
  · rintro ⟨o, ho, hb⟩
    have ho2 := (mem_members.1 ho).2
    have hon := reach_rooms ok hh k ho2
    exact ⟨o, hon, by rw [Bool.and_eq_true]; exact ⟨ho2, by rw [← nearC_bit hon (by omega)]; exact hb⟩⟩

def ReachPost (c : Col) (h R : Nat) (w : World) (e : Ending) (w' : World) : Prop :=
  ∃ g cap, e = .returned (.slice (some ⟨g, 0, none⟩) c.rooms.length cap) ∧ c.rooms.length ≤ cap ∧ BlBlk w' g c.rooms.length (fun j => (reachN c h R).testBit j) ∧ w.heap.size ≤ g ∧ Below w.heap.size w w'
set_option maxRecDepth 100000 in
set_option maxHeartbeats 4000000 in
theorem rreaches_any (c : Col) (r t u n : Value) (h R : Nat) (w : World) (hc : ColAt w w.heap.size r t u n c) (ok : OkCol c) (hh : h < c.rooms.length) (hR : R ≤ 3) :
    Calls Tryz.prog 48 #[.agg #[r, t, u, n], .int .i64 h, .int .i64 R] w (ReachPost c h R w) := by
  have hBW : Below w.heap.size w (w.alloc (.cells #[r, t, u, n] 32)) := (Below.refl _ w).alloc (Nat.le_refl _) _
  have HC := Lib.hid (hc.on hBW)
  have hx : (w.alloc (.cells #[r, t, u, n] 32)).heap[w.heap.size]? = some (.cells #[r, t, u, n] 32 (0, 0)) := blk _ _ _ _ rfl
  obtain ⟨hr, htr, hu, hn⟩ := hc
  obtain ⟨ar, cr, rfl, _⟩ := hr.open
  obtain ⟨at_, ct, rfl, _⟩ := htr.open
  obtain ⟨au, cu, rfl, _⟩ := hu.open
  obtain ⟨an, cn, rfl, _⟩ := hn.open
  have n6 := ok.houses.2
  have HB := Lib.hid hBW; have HX := Lib.hid hx; have HOK := Lib.hid ok
  have HI0 := Lib.hid (info_parts infoBool)
  clear hr htr hu hn hBW hx ok
  go_enter Tryz.func48, Tryz.ntmps48
  go_wp2_with fail
  obtain ⟨W1, hW1⟩ : ∃ W1, w.alloc (.cells #[.slice ar c.rooms.length cr, .slice at_ c.traps.length ct, .slice au c.runs.length cu, .slice an c.nights.length cn] 32) = W1 := ⟨_, rfl⟩
  have hs1 : W1.heap.size = w.heap.size + 1 := by rw [← hW1]; simp
  rw [hW1] at HC HB HX ⊢
  have HS1 := Lib.hid hs1
  clear hW1 hs1
  refine (only_any c _ _ _ _ h W1 HC.out n6 hh).mono ?_
  rintro e w2 ⟨b, rfl, ho2, hle2, hb2⟩
  have HST : Hid (c.rooms.length ≤ c.rooms.length ∧ W1.heap.size ≤ b ∧ BlBlk w2 b c.rooms.length (fun j => (reachN c h 0).testBit j) ∧ Below W1.heap.size W1 w2) := ⟨Nat.le_refl _, hle2, BlBlk.of ho2 (by simp [onlyL]) (fun j hj => by
    rw [nthB_eq (by simp [onlyL]; exact hj), onlyL_get]
    show (h == j) = (pw h).testBit j
    rw [pw_bit]), hb2⟩
  clear ho2 hle2 hb2
  go_wp2_with fail
  go_loopw [7, 8] (fun ov i wr => ∃ k g cap : Nat, k ≤ R ∧ i = .int .i64 k ∧ ov = .slice (some ⟨g, 0, none⟩) c.rooms.length cap ∧ Hid (c.rooms.length ≤ cap ∧ W1.heap.size ≤ g ∧ BlBlk wr g c.rooms.length (fun j => (reachN c h k).testBit j) ∧ Below W1.heap.size W1 wr)) (fun _ i _ => R - (intOf i).toNat)
  case atStart => exact ⟨0, b, c.rooms.length, Nat.zero_le _, rfl, rfl, HST⟩
  case round =>
    obtain ⟨k, g, cap, hk, rfl, rfl, HR⟩ := hrel
    by_cases hkl : k < R
    · have hki : (k : Int) < R := by omega
      obtain ⟨F, hF⟩ : ∃ F : Nat → Bool, (fun j => (reachN c h k).testBit j) = F := ⟨_, rfl⟩
      have hR0 := HR.out
      rw [hF] at hR0
      obtain ⟨hcap, hg, hbl, hbr⟩ := hR0
      have hgl := hbl.lt
      have hsrc : ∀ (j : Nat) (z : Value), (boolsV c.rooms.length F)[j]? = some z → (wr.alloc (.cells #[] 4)).cell? ((⟨g, 0, none⟩ : Addr).add j) = some z := fun j z hz => by
        obtain ⟨hj, rfl⟩ := boolsV_get hz
        have ha : ((⟨g, 0, none⟩ : Addr).add j) = ⟨g, j, none⟩ := by unfold Addr.add; split <;> simp_all
        rw [ha]
        exact (((Below.refl wr.heap.size wr).alloc (Nat.le_refl _) _).cell (p := ⟨g, j, none⟩) hgl).trans (hbl.cell hj)
      have hone : ∀ v ∈ boolsV c.rooms.length F, v.oneCell' = true := by intro v hv; obtain ⟨x, _, rfl⟩ := List.mem_map.1 hv; rfl
      have HSRC := Lib.hid hsrc
      have HONE := Lib.hid hone
      have HF := Lib.hid hF
      have H0 := Lib.hid (And.intro hbl hbr)
      obtain ⟨i0, hi, hz0, hz1, hz2⟩ := HI0.out
      clear hsrc hone hF hbl hbr HR HST
      go_wp2_with (at_builtin; refine wpList_append_lies _ rfl _ _ 86 rfl wr.heap.size 4 i0 (.bool false) 1 1 Tryz.underlying86 hi hz0 hz1 hz2 rfl (by decide) _ _ _ rfl (World.ownsRow_made wr #[] 0 (Nat.le_refl _) (Nat.zero_le _) rfl) ⟨g, 0, none⟩ c.rooms.length cap (boolsV c.rooms.length F) rfl (by rw [boolsV_len]; omega) HSRC.out HONE.out (by omega) (by unfold maxLen; omega) (by omega) (by simp) (wr.heap.size + 1) (by simp) ?_; intro g6 cap6 w6 hown6 hgrow6 _ _)
      rw [Nat.zero_add, List.nil_append] at hown6
      obtain ⟨hbl6, hcap6, hg6⟩ := BlBlk.owns hown6
      have hb6 : Below wr.heap.size wr w6 := below_grown ((Below.refl wr.heap.size wr).alloc (Nat.le_refl _) _) hgrow6 (fun r hr => by cases hr; exact Nat.le_refl _) (by simp)
      have H6 : Hid (BlBlk w6 g6 c.rooms.length (nx F c 0 0) ∧ Below wr.heap.size wr w6) := ⟨hbl6.same (fun j _ => (nx_zero F c j).symm), hb6⟩
      clear hown6 hgrow6 hbl6 hb6 HSRC HONE
      go_wp2_with fail
      obtain ⟨wo, rfl⟩ : ∃ wo : World, wo = wr := ⟨_, rfl⟩
      go_loopw [10] (fun i wq => ∃ a : Nat, a ≤ c.rooms.length ∧ i = .int .i64 a ∧ Hid (BlBlk wq g6 c.rooms.length (nx F c a 0) ∧ Below wo.heap.size wo wq)) (fun i _ => c.rooms.length - (intOf i).toNat)
      case atStart => exact ⟨0, Nat.zero_le _, rfl, H6⟩
      case round =>
        obtain ⟨a, ha, rfl, HQ⟩ := hrel
        by_cases hal : a < c.rooms.length
        · have hai : (a : Int) < c.rooms.length := by omega
          clear H6
          go_wp2_with fail
          obtain ⟨wo2, rfl⟩ : ∃ wo2 : World, wo2 = wr := ⟨_, rfl⟩
          go_loopw [11] (fun i wq => ∃ b : Nat, b ≤ c.rooms.length ∧ i = .int .i64 b ∧ Hid (BlBlk wq g6 c.rooms.length (nx F c a b) ∧ Below wo.heap.size wo wq)) (fun i _ => c.rooms.length - (intOf i).toNat)
          case atStart => exact ⟨0, Nat.zero_le _, rfl, HQ⟩
          case round =>
            obtain ⟨b, hb, rfl, HP⟩ := hrel
            by_cases hbl : b < c.rooms.length
            · have hbi : (b : Int) < c.rooms.length := by omega
              clear HQ
              have c1 := HP.out.1.cell hbl
              have f1 := HP.out.1.free b
              have c2 := (H0.out.1.on HP.out.2).cell hal
              have hbq : Below W1.heap.size W1 wr := H0.out.2.trans (HP.out.2.mono H0.out.2.size)
              obtain ⟨q0, q1, q2, q3⟩ := four_of (blk_on HX.out hbq)
              have HGO := Lib.hid (goes_any c _ _ _ _ a b wr (HC.out.on hbq))
              clear hbq
              cases hX : nx F c a b b
              · rw [hX] at c1
                cases hY : F a
                · rw [hY] at c2
                  have HV : Hid (false = (nx F c a b b || (F a && goesB c a b))) := by rw [hX, hY]; rfl
                  clear hX hY
                  go_wp2_with fail
                  go_roundw
                  case rel => exact ⟨b + 1, by omega, by go_num, (HP.out.1.set false hbl).same (fun j _ => nx_set HV.out j), HP.out.2.setCell (p := ⟨g6, b, none⟩) hg6 _⟩
                  case measure => simp [intOf]; omega
                · rw [hY] at c2
                  have HV : Hid (goesI c a b = (nx F c a b b || (F a && goesB c a b))) := by rw [hX, hY]; rfl
                  clear hX hY
                  go_wp2_with (go_at_call 99; refine HGO.out.mono ?_; rintro e w5 ⟨rfl, hb5⟩; have n5 := HP.out.1.on hb5; have d5 := n5.cell hbl; have f5 := n5.free b; have H5 := Lib.hid (And.intro n5 (HP.out.2.trans (hb5.mono HP.out.2.size))); clear n5 hb5)
                  go_roundw
                  case rel => exact ⟨b + 1, by omega, by go_num, (H5.out.1.set _ hbl).same (fun j _ => nx_set HV.out j), H5.out.2.setCell (p := ⟨g6, b, none⟩) hg6 _⟩
                  case measure => simp [intOf]; omega
              · rw [hX] at c1
                have HV : Hid (true = (nx F c a b b || (F a && goesB c a b))) := by rw [hX]; rfl
                clear hX
                go_wp2_with fail
                go_roundw
                case rel => exact ⟨b + 1, by omega, by go_num, (HP.out.1.set true hbl).same (fun j _ => nx_set HV.out j), HP.out.2.setCell (p := ⟨g6, b, none⟩) hg6 _⟩
                case measure => simp [intOf]; omega
            · obtain rfl : b = c.rooms.length := by omega
              clear HQ
              go_wp2_with fail
              go_roundw
              case rel => exact ⟨a + 1, by omega, by go_num, HP.out.1.same (fun j hj => nx_row F c hj), HP.out.2⟩
              case measure => simp [intOf]; omega
        · obtain rfl : a = c.rooms.length := by omega
          have HE : Hid (c.rooms.length ≤ cap6 ∧ W1.heap.size ≤ g6 ∧ BlBlk wr g6 c.rooms.length (fun j => (reachN c h (k + 1)).testBit j) ∧ Below W1.heap.size W1 wr) :=
            ⟨hcap6, by have := H0.out.2.size; omega, HQ.out.1.same (fun j hj => by rw [← HF.out]; exact reach_next HOK.out hh k hj), H0.out.2.trans (HQ.out.2.mono H0.out.2.size)⟩
          clear HQ H6
          go_wp2_with fail
          go_roundw
          case rel => exact ⟨k + 1, g6, cap6, by omega, by go_num, rfl, HE⟩
          case measure => simp [intOf]; omega
    · obtain rfl : k = R := by omega
      go_wp2_with fail
      go_ret
      exact ⟨g, cap, rfl, HR.out.1, HR.out.2.2.1, by have := HR.out.2.1; have := HS1.out; omega, HB.out.trans (HR.out.2.2.2.mono HB.out.size)⟩
end Go.Proofs.YtnhifinfjfpoiaaGreat

namespace Go.Proofs.YtnhifinfjfpoiaaGreat
open Go.RowKit
set_option linter.unusedVariables false
set_option linter.unusedSimpArgs false

/-- The houses below k that are marked. -/
def markedTo (F : Nat → Bool) (k : Nat) : List Nat := (List.range k).filter F
theorem markedTo_yes {F : Nat → Bool} {k : Nat} (h : F k = true) : markedTo F (k + 1) = markedTo F k ++ [k] := by simp [markedTo, List.range_succ, h]
theorem markedTo_no {F : Nat → Bool} {k : Nat} (h : F k = false) : markedTo F (k + 1) = markedTo F k := by simp [markedTo, List.range_succ, h]
theorem markedTo_len (F : Nat → Bool) (k : Nat) : (markedTo F k).length ≤ k := by
  have := List.length_filter_le F (List.range k)
  simpa [markedTo] using this
theorem marked_members {m n : Nat} (hm : ∀ x, m.testBit x = true → x < n) (hn : n ≤ 6) : markedTo (fun j => m.testBit j) n = members m := by
  have e : members m = markedTo (fun j => m.testBit j) 6 := rfl
  rw [e]
  have key : ∀ d, n + d ≤ 6 → markedTo (fun j => m.testBit j) (n + d) = markedTo (fun j => m.testBit j) n := by
    intro d
    induction d with
    | zero => intro _; rfl
    | succ d ih =>
      intro h
      show markedTo _ (n + d + 1) = _
      rw [markedTo_no (k := n + d) (by
        cases q : m.testBit (n + d)
        · rfl
        · have := hm _ q; omega)]
      exact ih (by omega)
  have := key (6 - n) (by omega)
  rw [show n + (6 - n) = 6 by omega] at this
  exact this.symm
set_option maxRecDepth 100000 in
set_option maxHeartbeats 2000000 in
theorem rlist_any (g n cap : Nat) (F : Nat → Bool) (w : World) (hb : BlBlk w g n F) (hn : n ≤ 6) :
    Calls Tryz.prog 47 #[.slice (some ⟨g, 0, none⟩) n cap] w fun e w' => ∃ v, e = .returned v ∧ IsInts w' w'.heap.size v (natsI (markedTo F n)) ∧ Below w.heap.size w w' := by
  have HB := Lib.hid hb
  have HI0 := Lib.hid (info_parts infoInt)
  clear hb
  go_enter Tryz.func47, Tryz.ntmps47
  go_wp2_with fail
  go_loopw [3, 4] (fun v i wr => ∃ k : Nat, k ≤ n ∧ i = .int .i64 k ∧ Hid (wr.ownsRow w.heap.size 3 1 v (markedTo F k).length (intsV (natsI (markedTo F k))) ∧ Below w.heap.size w wr)) (fun _ i _ => n - (intOf i).toNat)
  case atStart => exact ⟨0, Nat.zero_le _, rfl, World.ownsRow_nil _ _ _ _, Below.refl _ _⟩
  case round =>
    obtain ⟨k, hk, rfl, HR⟩ := hrel
    by_cases hlt : k < n
    · have hki : (k : Int) < n := by omega
      have c1 := (HB.out.on HR.out.2).cell hlt
      cases hF : F k
      · rw [hF] at c1
        have HM := Lib.hid (markedTo_no hF)
        clear hF
        go_wp2_with fail
        go_roundw
        case rel => exact ⟨k + 1, by omega, by go_num, by rw [HM.out]; exact HR.out⟩
        case measure => simp [intOf]; omega
      · rw [hF] at c1
        have HM := Lib.hid (markedTo_yes hF)
        obtain ⟨av, cv, hav⟩ := owns_slice HR.out.1
        subst hav
        obtain ⟨i0, hi, hz0, hz1, hz2⟩ := HI0.out
        have hml := markedTo_len F k
        have HO := Lib.hid (HR.out.1.alloc (.cells #[.int .i64 k] 3))
        have hsz := HR.out.2.size
        clear hF
        go_wp2_with (at_builtin; refine wpList_append_lies _ rfl _ _ 22 rfl w.heap.size 3 i0 (.int .i64 0) 1 8 Tryz.underlying22 hi hz0 hz1 hz2 rfl (by decide) (.slice av (markedTo F k).length cv) (markedTo F k).length (intsV (natsI (markedTo F k))) rfl HO.out ⟨wr.heap.size, 0, none⟩ 1 1 [.int .i64 k] rfl rfl (cell_one_new _ _ _) (fun y hy => by simp at hy; subst hy; rfl) (by decide) (by unfold maxLen; omega) (by omega) (by simp; omega) (wr.heap.size + 1) (by simp) ?_; intro g6 cap6 w6 hown6 hgrow6 _ _)
        have hb6 : Below w.heap.size w w6 := below_grown (HR.out.2.alloc hsz _) hgrow6 (fun r hr => (HO.out.lt r hr).1) (by simp; omega)
        have HN := Lib.hid (And.intro hown6 hb6)
        clear hown6 hgrow6 hb6 HO
        go_wp2_with fail
        go_roundw
        case rel =>
          refine ⟨k + 1, by omega, by go_num, ?_, HN.out.2⟩
          have h6 := HN.out.1
          rw [HM.out, List.length_append]
          have e : intsV (natsI (markedTo F k ++ [k])) = intsV (natsI (markedTo F k)) ++ [.int .i64 (k : Int)] := by simp [intsV, natsI]
          rw [e]
          exact h6
        case measure => simp [intOf]; omega
    · obtain rfl : k = n := by omega
      go_wp2_with fail
      go_ret
      have hml := markedTo_len F k
      refine ⟨_, rfl, nums_of_owns (b := w.heap.size) (by rw [natsI_len]; exact HR.out.1) (natsI_i64 (fun x hx => by have := List.mem_filter.1 hx; have := List.mem_range.1 this.1; omega)) (by rw [natsI_len]; omega), HR.out.2⟩
set_option maxRecDepth 100000 in
set_option maxHeartbeats 2000000 in
theorem rReaches_good (c : Col) (r t u n : Value) (h m : Int) (w : World) (hc : ColAt w w.heap.size r t u n c) (hk : reachErr c h m = 0) :
    Calls Tryz.prog 10 #[.agg #[r, t, u, n], .int .i64 h, .int .i64 m] w fun e w' => ∃ v, e = .returned (.tuple #[v, .int .i64 0]) ∧ IsInts w' w'.heap.size v (natsI (members (reachN c h.toNat m.toNat))) ∧ Below w.heap.size w w' := by
  obtain ⟨k0, k1, k2⟩ := reach_in hk
  have ok := okCol_of k0
  have n6 := ok.houses.2
  have a := inB_true k1
  have b := inB_true k2
  obtain ⟨H, rfl⟩ : ∃ H : Nat, h = H := ⟨h.toNat, by omega⟩
  obtain ⟨M, rfl⟩ : ∃ M : Nat, m = M := ⟨m.toNat, by omega⟩
  have hH : H < c.rooms.length := by omega
  have hM : M ≤ 3 := by omega
  have hhe : houseErr c (H : Int) = 0 := by unfold houseErr; rw [if_pos k0, if_pos k1]
  have hBW : Below w.heap.size w (w.alloc (.cells #[r, t, u, n] 32)) := (Below.refl _ w).alloc (Nat.le_refl _) _
  have HC := Lib.hid (hc.on hBW)
  have hx : (w.alloc (.cells #[r, t, u, n] 32)).heap[w.heap.size]? = some (.cells #[r, t, u, n] 32 (0, 0)) := blk _ _ _ _ rfl
  obtain ⟨hr, htr, hu, hn⟩ := hc
  obtain ⟨ar, cr, rfl, _⟩ := hr.open
  obtain ⟨at_, ct, rfl, _⟩ := htr.open
  obtain ⟨au, cu, rfl, _⟩ := hu.open
  obtain ⟨an, cn, rfl, _⟩ := hn.open
  have HB := Lib.hid hBW; have HX := Lib.hid hx; have HOK := Lib.hid ok
  have HHE := Lib.hid hhe
  have HME : Hid (markedTo (fun j => (reachN c H M).testBit j) c.rooms.length = members (reachN c H M)) := marked_members (fun x hx => reach_rooms ok hH M hx) n6
  have HOF := Lib.hid (off_in k2)
  clear hr htr hu hn hBW hx ok k0 k1 k2 hk hhe a b
  go_enter Tryz.func10, Tryz.ntmps10
  go_wp2_with fail
  obtain ⟨W1, hW1⟩ : ∃ W1, w.alloc (.cells #[.slice ar c.rooms.length cr, .slice at_ c.traps.length ct, .slice au c.runs.length cu, .slice an c.nights.length cn] 32) = W1 := ⟨_, rfl⟩
  rw [hW1] at HC HB HX ⊢
  clear hW1
  refine (rhouse_any c _ _ _ _ H W1 HC.out).mono ?_
  rintro e w2 ⟨rfl, hb2⟩
  rw [HHE.out]
  have HC2 := Lib.hid (HC.out.on hb2)
  have HX2 := Lib.hid (blk_on HX.out hb2)
  have HB2 := Lib.hid (HB.out.trans (hb2.mono HB.out.size))
  clear hb2
  obtain ⟨q0, q1, q2, q3⟩ := four_of HX2.out
  go_wp2_with fail
  refine (HOF.out w2).mono ?_
  rintro e w3 ⟨rfl, rfl⟩
  go_wp2_with fail
  refine (rreaches_any c _ _ _ _ H M w2 HC2.out HOK.out hH hM).mono ?_
  rintro e w4 ⟨g, cap, rfl, hcap, hbl, hg, hb4⟩
  have H4 := Lib.hid (And.intro hbl hb4)
  clear hbl hb4 q0 q1 q2 q3
  go_wp2_with fail
  refine (rlist_any g c.rooms.length cap _ w4 H4.out.1 n6).mono ?_
  rintro e w5 ⟨v, rfl, hv, hb5⟩
  have H5 := Lib.hid (And.intro hv hb5)
  clear hv hb5
  go_wp2_with fail
  go_ret2
  have h1 := HB2.out.trans (H4.out.2.mono HB2.out.size)
  refine ⟨v, rfl, ?_, h1.trans (H5.out.2.mono h1.size)⟩
  rw [Int.toNat_natCast, Int.toNat_natCast, ← HME.out]
  exact H5.out.1
end Go.Proofs.YtnhifinfjfpoiaaGreat
