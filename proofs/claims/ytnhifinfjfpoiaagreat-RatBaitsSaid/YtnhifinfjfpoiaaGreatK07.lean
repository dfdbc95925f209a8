/- The plain law of the search for rooms: what share gives is the least, over all sets of houses, of their rooms and of the rats that can come from elsewhere. The plain law of share: the least over all sets of houses. The plain law of share for a colony: the greatest number is a least one over 64 sets. Contract of rat.Grow. -/
import Derived.Test.YtnhifinfjfpoiaaGreatK04
import Derived.Test.YtnhifinfjfpoiaaGreatK05
namespace Go.Proofs.YtnhifinfjfpoiaaGreat
open Go.RowKit
set_option linter.unusedVariables false

def sumN (f : Nat → Int) : Nat → Int
  | 0 => 0
  | n + 1 => sumN f n + f n
theorem sumN_succ (f : Nat → Int) (n : Nat) : sumN f (n + 1) = sumN f n + f n := rfl
theorem sumN_congr {f g : Nat → Int} : ∀ {n : Nat}, (∀ i, i < n → f i = g i) → sumN f n = sumN g n
  | 0, _ => rfl
  | n + 1, h => by rw [sumN_succ, sumN_succ, sumN_congr (fun i hi => h i (by omega)), h n (by omega)]
theorem sumN_add (f g : Nat → Int) : ∀ n, sumN (fun i => f i + g i) n = sumN f n + sumN g n
  | 0 => rfl
  | n + 1 => by rw [sumN_succ, sumN_succ, sumN_succ, sumN_add f g n]; omega
theorem sumN_le {f g : Nat → Int} : ∀ {n : Nat}, (∀ i, i < n → f i ≤ g i) → sumN f n ≤ sumN g n
  | 0, _ => Int.le_refl _
  | n + 1, h => by
    rw [sumN_succ, sumN_succ]
    have h1 := sumN_le (n := n) (f := f) (g := g) (fun i hi => h i (by omega))
    have h2 := h n (by omega)
    omega
theorem sumN_zero : ∀ n, sumN (fun _ => 0) n = 0
  | 0 => rfl
  | n + 1 => by rw [sumN_succ, sumN_zero n]; rfl
theorem sumN_nonneg {f : Nat → Int} {n : Nat} (h : ∀ i, i < n → 0 ≤ f i) : 0 ≤ sumN f n := by
  have := sumN_le (n := n) (f := fun _ => 0) (g := f) h
  rw [sumN_zero] at this; exact this
theorem sumN_const (x : Int) : ∀ n : Nat, sumN (fun _ => x) n = x * n
  | 0 => by simp [sumN]
  | n + 1 => by rw [sumN_succ, sumN_const x n]; rw [Int.natCast_succ, Int.mul_add]; omega
theorem sumN_bound {f : Nat → Int} {n : Nat} {b : Int} (h : ∀ i, i < n → f i ≤ b) : sumN f n ≤ b * n := by
  have := sumN_le (n := n) (f := f) (g := fun _ => b) h
  rw [sumN_const] at this; exact this
theorem sumN_swap (f : Nat → Nat → Int) (m : Nat) : ∀ n, sumN (fun i => sumN (f i) n) m = sumN (fun j => sumN (fun i => f i j) m) n
  | 0 => by simp only [sumN]; exact sumN_zero m
  | n + 1 => by
    rw [sumN_succ, ← sumN_swap f m n, ← sumN_add]; rfl
theorem sumN_set (f : Nat → Int) (k : Nat) (x : Int) : ∀ n, sumN (fun j => if j = k then x else f j) n = if k < n then sumN f n - f k + x else sumN f n
  | 0 => by simp [sumN]
  | n + 1 => by
    rw [sumN_succ, sumN_set f k x n, sumN_succ]
    by_cases h1 : n = k
    · subst h1; simp
    · by_cases h2 : k < n
      · rw [if_pos h2, if_neg h1, if_pos (by omega)]; omega
      · rw [if_neg h2, if_neg h1, if_neg (by omega)]
theorem sumN_ge {f : Nat → Int} {n k : Nat} (h : ∀ i, i < n → 0 ≤ f i) (hk : k < n) : f k ≤ sumN f n := by
  induction n with
  | zero => omega
  | succ n ih =>
    rw [sumN_succ]
    by_cases e : k = n
    · subst e
      have := sumN_nonneg (f := f) (n := k) (fun i hi => h i (by omega))
      omega
    · have := ih (fun i hi => h i (by omega)) (by omega)
      have := h n (by omega)
      omega

/-- All houses of a mask are in a set. -/
def SubS (f : Nat) (T : Nat → Bool) : Prop := ∀ h, h < 6 → f.testBit h = true → T h = true
theorem SubS.mono {f : Nat} {T U : Nat → Bool} (h : SubS f T) (k : ∀ o, o < 6 → T o = true → U o = true) : SubS f U := fun o ho hf => k o ho (h o ho hf)

structure Good (from_ : Nat → Nat) (K : Nat) (r0 : Nat → Int) (R : Nat → Int) (G : Nat → Nat → Int) : Prop where
  room : ∀ h, h < 6 → 0 ≤ R h
  giv : ∀ o h, o < K → h < 6 → 0 ≤ G o h
  supp : ∀ o h, o < K → h < 6 → 0 < G o h → (from_ o).testBit h = true
  tot : ∀ h, h < 6 → R h + sumN (fun o => G o h) K = r0 h
/-- Houses without room, whose rats can come from no other house. -/
def Tight (from_ : Nat → Nat) (K : Nat) (T : Nat → Bool) (R : Nat → Int) (G : Nat → Nat → Int) : Prop :=
  ∀ h, h < 6 → T h = true → R h ≤ 0 ∧ ∀ o, o < K → 0 < G o h → SubS (from_ o) T
def perNeed (G : Nat → Nat → Int) (k : Nat) : Int := sumN (G k) 6

theorem Good.le {from_ : Nat → Nat} {K : Nat} {r0 R : Nat → Int} {G : Nat → Nat → Int} (g : Good from_ K r0 R G) {o h : Nat} (ho : o < K) (hh : h < 6) : R h ≤ r0 h ∧ G o h ≤ r0 h := by
  have h1 := g.tot h hh
  have h2 := sumN_ge (f := fun o => G o h) (n := K) (k := o) (fun i hi => g.giv i h hi hh) ho
  have h3 := g.room h hh
  have h4 := g.giv o h ho hh
  constructor <;> omega
theorem incW_id {x : Int} (h1 : 0 ≤ x) (h2 : x ≤ 100000) : incW x = x + 1 := by unfold incW wrap64; omega
theorem decW_id {x : Int} (h1 : 0 ≤ x) (h2 : x ≤ 100000) : decW x = x - 1 := by unfold decW wrap64; omega

/-- A search that fails turns nothing but the tried houses. -/
def FailSame (rec : Nat → St → Bool × St) : Prop := ∀ o s, (rec o s).1 = false → (rec o s).2.room = s.room ∧ (rec o s).2.giv = s.giv
theorem tryO_fail {rec : Nat → St → Bool × St} (hr : FailSame rec) (k h : Nat) : ∀ (l : List Nat) (s : St), (tryO rec k h l s).1 = false → (tryO rec k h l s).2.room = s.room ∧ (tryO rec k h l s).2.giv = s.giv
  | [], s, _ => ⟨rfl, rfl⟩
  | o :: l, s, e => by
    rw [tryO_cons] at e ⊢
    by_cases q : 0 < s.giv o h
    · rw [if_pos q] at e ⊢
      by_cases q2 : (rec o s).1 = true
      · rw [if_pos q2] at e; cases e
      · rw [if_neg q2] at e ⊢
        have h1 := hr o s (by simpa using q2)
        have h2 := tryO_fail hr k h l _ e
        exact ⟨h2.1.trans h1.1, h2.2.trans h1.2⟩
    · rw [if_neg q] at e ⊢
      exact tryO_fail hr k h l s e
theorem tryH_fail {rec : Nat → St → Bool × St} (hr : FailSame rec) (K k : Nat) : ∀ (l : List Nat) (s : St), (tryH rec K k l s).1 = false → (tryH rec K k l s).2.room = s.room ∧ (tryH rec K k l s).2.giv = s.giv
  | [], s, _ => ⟨rfl, rfl⟩
  | h :: l, s, e => by
    rw [tryH_cons] at e ⊢
    by_cases q : s.t.testBit h = true
    · rw [if_pos q] at e ⊢; exact tryH_fail hr K k l s e
    · rw [if_neg q] at e ⊢
      by_cases q2 : 0 < s.room h
      · rw [if_pos q2] at e; cases e
      · rw [if_neg q2] at e ⊢
        by_cases q3 : (tryO rec k h (List.range K) (s.tick h)).1 = true
        · rw [if_pos q3] at e; cases e
        · rw [if_neg q3] at e ⊢
          have h1 := tryO_fail hr k h _ _ (by simpa using q3)
          have h2 := tryH_fail hr K k l _ e
          exact ⟨h2.1.trans h1.1, h2.2.trans h1.2⟩
theorem tryF_fail (from_ : Nat → Nat) (K : Nat) : ∀ n, FailSame (tryF from_ K n)
  | 0 => fun _ _ _ => ⟨rfl, rfl⟩
  | n + 1 => fun k s e => tryH_fail (tryF_fail from_ K n) K k _ s e

/-- What a search that fails has tried is closed. -/
def Closed (from_ : Nat → Nat) (K : Nat) (s : St) (t : Nat) : Prop :=
  ∀ h, h < 6 → t.testBit h = true → s.t.testBit h = false → s.room h ≤ 0 ∧ ∀ o, o < K → 0 < s.giv o h → SubS (from_ o) t.testBit
theorem Closed.refl (from_ : Nat → Nat) (K : Nat) (s : St) : Closed from_ K s s.t := fun h _ h1 h2 => by rw [h1] at h2; cases h2
theorem Closed.trans {from_ : Nat → Nat} {K : Nat} {s s1 : St} {t : Nat} (h : Closed from_ K s s1.t) (k : Closed from_ K s1 t) (hr : s1.room = s.room) (hg : s1.giv = s.giv) (hs : ∀ o, s1.t.testBit o = true → t.testBit o = true) : Closed from_ K s t := by
  intro j hj ht hn
  cases q : s1.t.testBit j
  · have := k j hj ht q
    rw [hr, hg] at this; exact this
  · have h1 := h j hj q hn
    exact ⟨h1.1, fun o ho hp => (h1.2 o ho hp).mono (fun x _ hx => hs x hx)⟩
def RecClosed (from_ : Nat → Nat) (K n : Nat) (rec : Nat → St → Bool × St) : Prop :=
  ∀ o s, o < K → s.t < 64 → untried s.t < n → (rec o s).1 = false → SubS (from_ o) (rec o s).2.t.testBit ∧ Closed from_ K s (rec o s).2.t
theorem tryO_closed {from_ : Nat → Nat} {K n : Nat} {rec : Nat → St → Bool × St} (hf : FailSame rec) (hsub : ∀ o s, Sub s.t (rec o s).2.t) (hr : RecClosed from_ K n rec) (k h : Nat) : ∀ (l : List Nat) (s : St), (∀ o ∈ l, o < K) → s.t < 64 → untried s.t < n →
    (tryO rec k h l s).1 = false → (∀ o ∈ l, 0 < s.giv o h → SubS (from_ o) (tryO rec k h l s).2.t.testBit) ∧ Closed from_ K s (tryO rec k h l s).2.t
  | [], s, _, _, _, _ => ⟨fun _ h => (by cases h), Closed.refl _ _ _⟩
  | o :: l, s, hl, h64, hu, e => by
    rw [tryO_cons] at e ⊢
    by_cases q : 0 < s.giv o h
    · rw [if_pos q] at e ⊢
      by_cases q2 : (rec o s).1 = true
      · rw [if_pos q2] at e; cases e
      · rw [if_neg q2] at e ⊢
        have q3 : (rec o s).1 = false := by simpa using q2
        have hs := hsub o s h64
        have h1 := hf o s q3
        have h2 := hr o s (hl o (by simp)) h64 hu q3
        have h3 := tryO_closed hf hsub hr k h l _ (fun x hx => hl x (by simp [hx])) hs.1 (Nat.lt_of_le_of_lt (untried_le hs.2) hu) e
        have h4 := (tryO_sub hsub k h l (rec o s).2) hs.1
        refine ⟨fun x hx hp => ?_, h2.2.trans h3.2 h1.1 h1.2 h4.2⟩
        rcases List.mem_cons.1 hx with rfl | hx
        · exact h2.1.mono (fun y _ hy => h4.2 y hy)
        · exact h3.1 x hx (by rw [h1.2]; exact hp)
    · rw [if_neg q] at e ⊢
      have h3 := tryO_closed hf hsub hr k h l s (fun x hx => hl x (by simp [hx])) h64 hu e
      refine ⟨fun x hx hp => ?_, h3.2⟩
      rcases List.mem_cons.1 hx with rfl | hx
      · exact absurd hp q
      · exact h3.1 x hx hp
theorem tryH_closed {from_ : Nat → Nat} {K n : Nat} {rec : Nat → St → Bool × St} (hf : FailSame rec) (hsub : ∀ o s, Sub s.t (rec o s).2.t) (hr : RecClosed from_ K n rec) (k : Nat) : ∀ (l : List Nat) (s : St), (∀ h ∈ l, h < 6) → s.t < 64 → untried s.t < n + 1 →
    (tryH rec K k l s).1 = false → (∀ h ∈ l, (tryH rec K k l s).2.t.testBit h = true) ∧ Closed from_ K s (tryH rec K k l s).2.t
  | [], s, _, _, _, _ => ⟨fun _ h => (by cases h), Closed.refl _ _ _⟩
  | h :: l, s, hl, h64, hu, e => by
    have h6 := hl h (by simp)
    have hl' : ∀ x ∈ l, x < 6 := fun x hx => hl x (by simp [hx])
    rw [tryH_cons] at e ⊢
    by_cases q : s.t.testBit h = true
    · rw [if_pos q] at e ⊢
      have h3 := tryH_closed hf hsub hr k l s hl' h64 hu e
      refine ⟨fun x hx => ?_, h3.2⟩
      rcases List.mem_cons.1 hx with rfl | hx
      · exact ((tryH_sub hsub K k l s hl') h64).2 _ q
      · exact h3.1 x hx
    · rw [if_neg q] at e ⊢
      have q' : s.t.testBit h = false := by simpa using q
      by_cases q2 : 0 < s.room h
      · rw [if_pos q2] at e; cases e
      · rw [if_neg q2] at e ⊢
        by_cases q3 : (tryO rec k h (List.range K) (s.tick h)).1 = true
        · rw [if_pos q3] at e; cases e
        · rw [if_neg q3] at e ⊢
          have q4 : (tryO rec k h (List.range K) (s.tick h)).1 = false := by simpa using q3
          have ht64 : (s.tick h).t < 64 := orN_lt h64 (pw_lt h6)
          have hut : untried (s.tick h).t < n := Nat.lt_of_lt_of_le (untried_tick h6 q') (by omega)
          have f1 := tryO_fail hf k h _ _ q4
          have f2 := tryO_closed hf hsub hr k h (List.range K) (s.tick h) (fun x hx => by simpa using hx) ht64 hut q4
          have f3 := (tryO_sub hsub k h (List.range K) (s.tick h)) ht64
          have f4 : ∀ o, s.t.testBit o = true → (s.tick h).t.testBit o = true := fun o ho => by
            show (orN s.t (pw h)).testBit o = true
            rw [orN_bit, ho]; rfl
          have hth : (s.tick h).t.testBit h = true := by
            show (orN s.t (pw h)).testBit h = true
            rw [orN_bit, pw_bit]; simp
          have hus : untried (tryO rec k h (List.range K) (s.tick h)).2.t < n + 1 := Nat.lt_of_le_of_lt (untried_le f3.2) (by omega)
          have g1 := tryH_closed hf hsub hr k l _ hl' f3.1 hus e
          have g2 := (tryH_sub hsub K k l (tryO rec k h (List.range K) (s.tick h)).2 hl') f3.1
          have c1 : Closed from_ K s (tryO rec k h (List.range K) (s.tick h)).2.t := by
            intro j hj ht hn
            by_cases ej : j = h
            · subst ej
              exact ⟨by omega, fun o ho hp => f2.1 o (by simpa using ho) hp⟩
            · have hnt : (s.tick h).t.testBit j = false := by
                show (orN s.t (pw h)).testBit j = false
                rw [orN_bit, pw_bit, hn]; simp; exact fun e => ej e.symm
              exact f2.2 j hj ht hnt
          refine ⟨fun x hx => ?_, c1.trans g1.2 f1.1 f1.2 g2.2⟩
          rcases List.mem_cons.1 hx with rfl | hx
          · exact g2.2 _ (f3.2 _ hth)
          · exact g1.1 x hx
theorem tryF_closed (from_ : Nat → Nat) (K : Nat) : ∀ n, RecClosed from_ K n (tryF from_ K n)
  | 0 => fun _ _ _ _ h _ => by omega
  | n + 1 => fun k s hk h64 hu e => by
    have h := tryH_closed (tryF_fail from_ K n) (tryF_sub from_ K n) (tryF_closed from_ K n) k (members (from_ k)) s (members_lt _) h64 hu e
    exact ⟨fun j hj hb => h.1 j (by unfold members; simp [hj, hb]), h.2⟩

/-- A search that succeeds: from where it went on. -/
theorem tryO_succ {rec : Nat → St → Bool × St} (hf : FailSame rec) (hsub : ∀ o s, Sub s.t (rec o s).2.t) (k h : Nat) : ∀ (l : List Nat) (s : St), s.t < 64 → (tryO rec k h l s).1 = true →
    ∃ (o : Nat) (s' : St), o ∈ l ∧ s'.room = s.room ∧ s'.giv = s.giv ∧ s'.t < 64 ∧ (∀ x, s.t.testBit x = true → s'.t.testBit x = true) ∧ 0 < s.giv o h ∧ (rec o s').1 = true ∧ (tryO rec k h l s).2 = ((rec o s').2.back o h).give k h
  | [], s, _, e => by cases e
  | o :: l, s, h64, e => by
    rw [tryO_cons] at e ⊢
    by_cases q : 0 < s.giv o h
    · rw [if_pos q] at e ⊢
      by_cases q2 : (rec o s).1 = true
      · rw [if_pos q2] at e ⊢
        exact ⟨o, s, by simp, rfl, rfl, h64, fun _ h => h, q, q2, rfl⟩
      · rw [if_neg q2] at e ⊢
        have h1 := hf o s (by simpa using q2)
        have hs := hsub o s h64
        obtain ⟨p, s', m1, m2, m3, m4, m5, m6, m7, m8⟩ := tryO_succ hf hsub k h l _ hs.1 e
        exact ⟨p, s', by simp [m1], m2.trans h1.1, m3.trans h1.2, m4, fun x hx => m5 x (hs.2 x hx), by rw [← h1.2]; exact m6, m7, m8⟩
    · rw [if_neg q] at e ⊢
      obtain ⟨p, s', m1, m2⟩ := tryO_succ hf hsub k h l s h64 e
      exact ⟨p, s', by simp [m1], m2⟩
theorem tryH_succ {rec : Nat → St → Bool × St} (hf : FailSame rec) (hsub : ∀ o s, Sub s.t (rec o s).2.t) (K k : Nat) : ∀ (l : List Nat) (s : St), (∀ h ∈ l, h < 6) → s.t < 64 → (tryH rec K k l s).1 = true →
    ∃ (h : Nat) (s' : St), h ∈ l ∧ s'.room = s.room ∧ s'.giv = s.giv ∧ s'.t < 64 ∧ (∀ x, s.t.testBit x = true → s'.t.testBit x = true) ∧ s'.t.testBit h = false ∧
      ((0 < s.room h ∧ (tryH rec K k l s).2 = ((s'.tick h).room1 h).give k h) ∨
       (¬ 0 < s.room h ∧ (tryO rec k h (List.range K) (s'.tick h)).1 = true ∧ (tryH rec K k l s).2 = (tryO rec k h (List.range K) (s'.tick h)).2))
  | [], s, _, _, e => by cases e
  | h :: l, s, hl, h64, e => by
    have h6 := hl h (by simp)
    have hl' : ∀ x ∈ l, x < 6 := fun x hx => hl x (by simp [hx])
    rw [tryH_cons] at e ⊢
    by_cases q : s.t.testBit h = true
    · rw [if_pos q] at e ⊢
      obtain ⟨p, s', m1, m2⟩ := tryH_succ hf hsub K k l s hl' h64 e
      exact ⟨p, s', by simp [m1], m2⟩
    · rw [if_neg q] at e ⊢
      have q' : s.t.testBit h = false := by simpa using q
      by_cases q2 : 0 < s.room h
      · rw [if_pos q2] at e ⊢
        exact ⟨h, s, by simp, rfl, rfl, h64, fun _ h => h, q', .inl ⟨q2, rfl⟩⟩
      · rw [if_neg q2] at e ⊢
        by_cases q3 : (tryO rec k h (List.range K) (s.tick h)).1 = true
        · rw [if_pos q3] at e ⊢
          exact ⟨h, s, by simp, rfl, rfl, h64, fun _ h => h, q', .inr ⟨q2, q3, rfl⟩⟩
        · rw [if_neg q3] at e ⊢
          have ht64 : (s.tick h).t < 64 := orN_lt h64 (pw_lt h6)
          have f1 := tryO_fail hf k h _ _ (by simpa using q3)
          have f3 := (tryO_sub hsub k h (List.range K) (s.tick h)) ht64
          have f4 : ∀ o, s.t.testBit o = true → (s.tick h).t.testBit o = true := fun o ho => by
            show (orN s.t (pw h)).testBit o = true
            rw [orN_bit, ho]; rfl
          obtain ⟨p, s', m1, m2, m3, m4, m5, m6, m7⟩ := tryH_succ hf hsub K k l _ hl' f3.1 e
          refine ⟨p, s', by simp [m1], m2.trans f1.1, m3.trans f1.2, m4, fun x hx => m5 x (f3.2 x (f4 x hx)), m6, ?_⟩
          rw [f1.1] at m7
          exact m7

/-- What a search that succeeds does: one rat more of its need; tight houses and tried ones stay as they were. -/
structure Step (from_ : Nat → Nat) (K : Nat) (r0 : Nat → Int) (k : Nat) (s s' : St) : Prop where
  good : Good from_ K r0 s'.room s'.giv
  one : perNeed s'.giv k = perNeed s.giv k + 1
  other : ∀ o, o ≠ k → perNeed s'.giv o = perNeed s.giv o
  tried : ∀ h, h < 6 → s.t.testBit h = true → s'.room h = s.room h ∧ ∀ o, s'.giv o h = s.giv o h
  tight : ∀ T, Tight from_ K T s.room s.giv → ∀ h, h < 6 → T h = true → s'.room h = s.room h ∧ ∀ o, s'.giv o h = s.giv o h
def RecStep (from_ : Nat → Nat) (K : Nat) (r0 : Nat → Int) (rec : Nat → St → Bool × St) : Prop :=
  ∀ k s, k < K → s.t < 64 → Good from_ K r0 s.room s.giv → (rec k s).1 = true → Step from_ K r0 k s (rec k s).2
def RecStuck (from_ : Nat → Nat) (K : Nat) (rec : Nat → St → Bool × St) : Prop :=
  ∀ T k s, k < K → s.t < 64 → Tight from_ K T s.room s.giv → SubS (from_ k) T → (rec k s).1 = false

theorem tryF_stuck (from_ : Nat → Nat) (K : Nat) : ∀ n, RecStuck from_ K (tryF from_ K n)
  | 0 => fun _ _ _ _ _ _ _ => rfl
  | n + 1 => fun T k s hk h64 ht hs => by
    cases e : (tryF from_ K (n + 1) k s).1
    · rfl
    · exfalso
      obtain ⟨h, s', m1, m2, m3, m4, m5, m6, m7⟩ := tryH_succ (tryF_fail from_ K n) (tryF_sub from_ K n) K k (members (from_ k)) s (members_lt _) h64 e
      have h6 := members_lt _ h m1
      have hb : (from_ k).testBit h = true := by unfold members at m1; simp at m1; exact m1.2
      have hT := ht h h6 (hs h h6 hb)
      rcases m7 with ⟨q, _⟩ | ⟨q, q2, _⟩
      · omega
      · obtain ⟨o, s2, n1, n2, n3, n4, n5, n6, n7, n8⟩ := tryO_succ (tryF_fail from_ K n) (tryF_sub from_ K n) k h (List.range K) (s'.tick h) (orN_lt m4 (pw_lt h6)) q2
        have ho : o < K := by simpa using n1
        have hg : 0 < s.giv o h := by rw [← m3]; exact n6
        have hst : Tight from_ K T s2.room s2.giv := by
          rw [n2, n3]
          show Tight from_ K T s'.room s'.giv
          rw [m2, m3]; exact ht
        have := tryF_stuck from_ K n T o s2 ho n4 hst (hT.2 o ho hg)
        rw [n7] at this; cases this

theorem tryF_step (from_ : Nat → Nat) (K : Nat) (r0 : Nat → Int) (hr0 : ∀ h, h < 6 → r0 h ≤ 1000) : ∀ n, RecStep from_ K r0 (tryF from_ K n)
  | 0 => fun _ _ _ _ _ e => by cases e
  | n + 1 => fun k s hk h64 hg e => by
    obtain ⟨h, s', m1, m2, m3, m4, m5, m6, m7⟩ := tryH_succ (tryF_fail from_ K n) (tryF_sub from_ K n) K k (members (from_ k)) s (members_lt _) h64 e
    have h6 := members_lt _ h m1
    have hb : (from_ k).testBit h = true := by unfold members at m1; simp at m1; exact m1.2
    have hnt : s.t.testBit h = false := by
      cases q : s.t.testBit h
      · rfl
      · rw [m5 h q] at m6; cases m6
    rcases m7 with ⟨q, e2⟩ | ⟨q, q2, e2⟩
    · -- a place is left
      have e3 : (tryF from_ K (n + 1) k s).2 = ((s'.tick h).room1 h).give k h := e2
      rw [e3]
      have hRb := hg.le hk h6
      have h0 := hr0 h h6
      have hk0 := hg.giv k h hk h6
      have eR : ∀ j, (((s'.tick h).room1 h).give k h).room j = if j = h then s.room h - 1 else s.room j := fun j => by
        show (if j = h then decW (s'.room h) else s'.room j) = _
        rw [m2, decW_id (by omega) (by omega)]
      have eG : ∀ o j, (((s'.tick h).room1 h).give k h).giv o j = if o = k ∧ j = h then s.giv k h + 1 else s.giv o j := fun o j => by
        show (if o = k ∧ j = h then incW (s'.giv k h) else s'.giv o j) = _
        rw [m3, incW_id (by omega) (by omega)]
      refine ⟨⟨fun j hj => ?_, fun o j ho hj => ?_, fun o j ho hj hp => ?_, fun j hj => ?_⟩, ?_, fun o ho => ?_, fun j hj ht => ?_, fun T hT j hj ht => ?_⟩
      · rw [eR]; split
        · omega
        · exact hg.room j hj
      · rw [eG]; split
        · omega
        · exact hg.giv o j ho hj
      · rw [eG] at hp
        by_cases c : o = k ∧ j = h
        · rw [c.1, c.2]; exact hb
        · rw [if_neg c] at hp; exact hg.supp o j ho hj hp
      · have ht := hg.tot j hj
        rw [eR]
        by_cases c : j = h
        · subst c
          rw [if_pos rfl]
          have : sumN (fun o => (((s'.tick j).room1 j).give k j).giv o j) K = sumN (fun o => s.giv o j) K - s.giv k j + (s.giv k j + 1) := by
            have h1 := sumN_set (fun o => s.giv o j) k (s.giv k j + 1) K
            rw [if_pos hk] at h1
            rw [← h1]
            exact sumN_congr fun i hi => by rw [eG]; simp
          rw [this]; omega
        · rw [if_neg c]
          have : sumN (fun o => (((s'.tick h).room1 h).give k h).giv o j) K = sumN (fun o => s.giv o j) K := sumN_congr fun i hi => by rw [eG, if_neg (fun c2 => c c2.2)]
          rw [this]; exact ht
      · unfold perNeed
        have h1 := sumN_set (s.giv k) h (s.giv k h + 1) 6
        rw [if_pos h6] at h1
        have : sumN ((((s'.tick h).room1 h).give k h).giv k) 6 = sumN (fun j => if j = h then s.giv k h + 1 else s.giv k j) 6 := sumN_congr fun i hi => by rw [eG]; simp
        rw [this, h1]; omega
      · unfold perNeed
        exact sumN_congr fun i hi => by rw [eG, if_neg (fun c2 => ho c2.1)]
      · have c : j ≠ h := fun c => by rw [c, hnt] at ht; cases ht
        exact ⟨by rw [eR, if_neg c], fun o => by rw [eG, if_neg (fun c2 => c c2.2)]⟩
      · have c : j ≠ h := fun c => by subst c; have := (hT j hj ht).1; omega
        exact ⟨by rw [eR, if_neg c], fun o => by rw [eG, if_neg (fun c2 => c c2.2)]⟩
    · -- a rat gives its place
      have e3 : (tryF from_ K (n + 1) k s).2 = (tryO (tryF from_ K n) k h (List.range K) (s'.tick h)).2 := e2
      obtain ⟨o, s2, n1, n2, n3, n4, n5, n6, n7, n8⟩ := tryO_succ (tryF_fail from_ K n) (tryF_sub from_ K n) k h (List.range K) (s'.tick h) (orN_lt m4 (pw_lt h6)) q2
      rw [e3, n8]
      have ho : o < K := by simpa using n1
      have eroom : s2.room = s.room := n2.trans m2
      have egiv : s2.giv = s.giv := n3.trans m3
      have hpos : 0 < s.giv o h := by rw [← m3]; exact n6
      have st := tryF_step from_ K r0 hr0 n o s2 ho n4 (by rw [eroom, egiv]; exact hg) n7
      obtain ⟨s3, hs3⟩ : ∃ s3, (tryF from_ K n o s2).2 = s3 := ⟨_, rfl⟩
      rw [hs3] at st ⊢
      have hth : s2.t.testBit h = true := n5 h (by
        show (orN s'.t (pw h)).testBit h = true
        rw [orN_bit, pw_bit]; simp)
      have hcol := st.tried h h6 hth
      rw [eroom, egiv] at hcol
      have hlo := st.good.le ho h6
      have hlk := st.good.le hk h6
      have h0 := hr0 h h6
      have hp3 : 0 < s3.giv o h := by rw [hcol.2 o]; exact hpos
      have hk3 := st.good.giv k h hk h6
      -- what is given behind the two turns
      have eG : ∀ p j, ((s3.back o h).give k h).giv p j = if p = k ∧ j = h then (if k = o then s3.giv k h else s3.giv k h + 1) else if p = o ∧ j = h then s3.giv o h - 1 else s3.giv p j := fun p j => by
        show (if p = k ∧ j = h then incW (if k = o ∧ h = h then decW (s3.giv o h) else s3.giv k h) else if p = o ∧ j = h then decW (s3.giv o h) else s3.giv p j) = _
        rw [decW_id (by omega) (by omega)]
        by_cases c : k = o
        · subst c
          simp only [and_self, if_true]
          rw [incW_id (by omega) (by omega)]
          by_cases c2 : p = k ∧ j = h
          · simp only [if_pos c2]; omega
          · simp only [if_neg c2]
        · simp only [c, false_and, if_false]
          rw [incW_id (by omega) (by omega)]
      have eR : ((s3.back o h).give k h).room = s3.room := rfl
      have hpn : ∀ p, perNeed ((s3.back o h).give k h).giv p = if k = o then perNeed s3.giv p else if p = k then perNeed s3.giv k + 1 else if p = o then perNeed s3.giv o - 1 else perNeed s3.giv p := fun p => by
        by_cases c : k = o
        · subst c
          rw [if_pos rfl]
          unfold perNeed
          refine sumN_congr fun i hi => ?_
          rw [eG]
          by_cases c2 : p = k ∧ i = h
          · rw [if_pos c2, if_pos rfl, c2.1, c2.2]
          · rw [if_neg c2, if_neg c2]
        · rw [if_neg c]
          by_cases c1 : p = k
          · subst c1
            rw [if_pos rfl]
            unfold perNeed
            have h1 := sumN_set (s3.giv p) h (s3.giv p h + 1) 6
            rw [if_pos h6] at h1
            have : sumN (((s3.back o h).give p h).giv p) 6 = sumN (fun j => if j = h then s3.giv p h + 1 else s3.giv p j) 6 := sumN_congr fun i hi => by
              rw [eG]
              by_cases c2 : i = h
              · rw [if_pos ⟨rfl, c2⟩, if_neg c, if_pos c2]
              · rw [if_neg (fun x => c2 x.2), if_neg (fun x => c2 x.2), if_neg c2]
            rw [this, h1]; omega
          · rw [if_neg c1]
            by_cases c3 : p = o
            · subst c3
              rw [if_pos rfl]
              unfold perNeed
              have h1 := sumN_set (s3.giv p) h (s3.giv p h - 1) 6
              rw [if_pos h6] at h1
              have : sumN (((s3.back p h).give k h).giv p) 6 = sumN (fun j => if j = h then s3.giv p h - 1 else s3.giv p j) 6 := sumN_congr fun i hi => by
                rw [eG, if_neg (fun x => c1 x.1)]
                by_cases c2 : i = h
                · rw [if_pos ⟨rfl, c2⟩, if_pos c2]
                · rw [if_neg (fun x => c2 x.2), if_neg c2]
              rw [this, h1]; omega
            · rw [if_neg c3]
              unfold perNeed
              exact sumN_congr fun i hi => by rw [eG, if_neg (fun x => c1 x.1), if_neg (fun x => c3 x.1)]
      have hbase : ∀ p, perNeed s2.giv p = perNeed s.giv p := fun p => by rw [egiv]
      refine ⟨⟨fun j hj => st.good.room j hj, fun p j hp hj => ?_, fun p j hp hj hpp => ?_, fun j hj => ?_⟩, ?_, fun p hp => ?_, fun j hj ht => ?_, fun T hT j hj ht => ?_⟩
      · rw [eG]
        have := st.good.giv p j hp hj
        split
        · split <;> omega
        · split <;> omega
      · rw [eG] at hpp
        by_cases c : p = k ∧ j = h
        · rw [c.1, c.2]; exact hb
        · rw [if_neg c] at hpp
          by_cases c2 : p = o ∧ j = h
          · rw [c2.1, c2.2]; exact st.good.supp o h ho h6 hp3
          · rw [if_neg c2] at hpp; exact st.good.supp p j hp hj hpp
      · have ht := st.good.tot j hj
        show s3.room j + sumN (fun p => ((s3.back o h).give k h).giv p j) K = r0 j
        have : sumN (fun p => ((s3.back o h).give k h).giv p j) K = sumN (fun p => s3.giv p j) K := by
          by_cases c : j = h
          · subst c
            by_cases c2 : k = o
            · subst c2
              refine sumN_congr fun i hi => ?_
              rw [eG]
              by_cases c3 : i = k
              · rw [if_pos ⟨c3, rfl⟩, if_pos rfl, c3]
              · rw [if_neg (fun x => c3 x.1), if_neg (fun x => c3 x.1)]
            · have h1 := sumN_set (fun p => s3.giv p j) o (s3.giv o j - 1) K
              rw [if_pos ho] at h1
              have h2 := sumN_set (fun p => if p = o then s3.giv o j - 1 else s3.giv p j) k (s3.giv k j + 1) K
              rw [if_pos hk, if_neg c2, h1] at h2
              have h3 : sumN (fun p => ((s3.back o j).give k j).giv p j) K = sumN (fun p => if p = k then s3.giv k j + 1 else if p = o then s3.giv o j - 1 else s3.giv p j) K := sumN_congr fun i hi => by
                rw [eG]; simp [c2]
              rw [h3, h2]; omega
          · exact sumN_congr fun i hi => by rw [eG, if_neg (fun x => c x.2), if_neg (fun x => c x.2)]
        rw [this]; exact ht
      · rw [hpn]
        by_cases c : k = o
        · subst c; rw [if_pos rfl, st.one, hbase]
        · rw [if_neg c, if_pos rfl, st.other k c, hbase]
      · rw [hpn]
        by_cases c : k = o
        · subst c; rw [if_pos rfl, st.other p hp, hbase]
        · rw [if_neg c, if_neg hp]
          by_cases c3 : p = o
          · subst c3; rw [if_pos rfl, st.one, hbase]; omega
          · rw [if_neg c3, st.other p c3, hbase]
      · have c : j ≠ h := fun c => by rw [c, hnt] at ht; cases ht
        have ht2 : s2.t.testBit j = true := n5 j (by
          show (orN s'.t (pw h)).testBit j = true
          rw [orN_bit, m5 j ht]; rfl)
        have h1 := st.tried j hj ht2
        rw [eroom, egiv] at h1
        exact ⟨h1.1, fun p => by rw [eG, if_neg (fun x => c x.2), if_neg (fun x => c x.2)]; exact h1.2 p⟩
      · have hT2 : Tight from_ K T s2.room s2.giv := by rw [eroom, egiv]; exact hT
        have c : j ≠ h := fun c => by
          subst c
          have := tryF_stuck from_ K n T o s2 ho n4 hT2 ((hT j hj ht).2 o ho hpos)
          rw [n7] at this; cases this
        have h1 := st.tight T hT2 j hj ht
        rw [eroom, egiv] at h1
        exact ⟨h1.1, fun p => by rw [eG, if_neg (fun x => c x.2), if_neg (fun x => c x.2)]; exact h1.2 p⟩
end Go.Proofs.YtnhifinfjfpoiaaGreat

namespace Go.Proofs.YtnhifinfjfpoiaaGreat
open Go.RowKit
set_option linter.unusedVariables false

def rats (nl : List (Int × Int)) (k : Nat) : Int := (nthP nl k).1
def subB (f : Nat) (T : Nat → Bool) : Bool := allB (fun h => !f.testBit h || T h) 6
theorem subB_iff {f : Nat} {T : Nat → Bool} : subB f T = true ↔ SubS f T := by
  unfold subB SubS
  rw [allB_iff]
  constructor
  · intro h o ho hf
    have := h o ho
    rw [hf] at this; simpa using this
  · intro h o ho
    cases q : f.testBit o
    · rfl
    · rw [h o ho q]; rfl
def roomsOf (r0 : Nat → Int) (V : Nat → Bool) : Int := sumN (fun h => if V h = true then r0 h else 0) 6
def elsewhere (nl : List (Int × Int)) (V : Nat → Bool) : Int := sumN (fun o => if subB (frm nl o) V = true then 0 else rats nl o) nl.length
def ratsOf (nl : List (Int × Int)) (V : Nat → Bool) : Int := sumN (fun o => if subB (frm nl o) V = true then rats nl o else 0) nl.length
def withinOf (from_ : Nat → Nat) (K : Nat) (G : Nat → Nat → Int) (V : Nat → Bool) : Int := sumN (fun o => if subB (from_ o) V = true then perNeed G o else 0) K

theorem within_swap (from_ : Nat → Nat) (K : Nat) (G : Nat → Nat → Int) (V : Nat → Bool) : withinOf from_ K G V = sumN (fun h => sumN (fun o => if subB (from_ o) V = true then G o h else 0) K) 6 := by
  unfold withinOf perNeed
  rw [← sumN_swap (fun o h => if subB (from_ o) V = true then G o h else 0) K 6]
  refine sumN_congr fun o ho => ?_
  by_cases q : subB (from_ o) V = true
  · simp [q]
  · simp only [if_neg q]; exact (sumN_zero 6).symm
theorem within_le {from_ : Nat → Nat} {K : Nat} {r0 R : Nat → Int} {G : Nat → Nat → Int} (g : Good from_ K r0 R G) (V : Nat → Bool) : withinOf from_ K G V ≤ roomsOf r0 V := by
  rw [within_swap]
  unfold roomsOf
  refine sumN_le fun h hh => ?_
  by_cases q : V h = true
  · rw [if_pos q]
    have h1 := g.tot h hh
    have h2 := g.room h hh
    have h3 : sumN (fun o => if subB (from_ o) V = true then G o h else 0) K ≤ sumN (fun o => G o h) K := sumN_le fun o ho => by
      split
      · exact Int.le_refl _
      · exact g.giv o h ho hh
    omega
  · rw [if_neg q]
    have : sumN (fun o => if subB (from_ o) V = true then G o h else 0) K = sumN (fun _ => 0) K := sumN_congr fun o ho => by
      by_cases c : subB (from_ o) V = true
      · rw [if_pos c]
        have h1 := g.giv o h ho hh
        by_cases c2 : 0 < G o h
        · exact absurd (subB_iff.1 c h hh (g.supp o h ho hh c2)) q
        · omega
      · rw [if_neg c]
    rw [this, sumN_zero]; exact Int.le_refl _
theorem within_tight {from_ : Nat → Nat} {K : Nat} {r0 R : Nat → Int} {G : Nat → Nat → Int} (g : Good from_ K r0 R G) {U : Nat → Bool} (ht : Tight from_ K U R G) : withinOf from_ K G U = roomsOf r0 U := by
  refine Int.le_antisymm (within_le g U) ?_
  rw [within_swap]
  unfold roomsOf
  refine sumN_le fun h hh => ?_
  by_cases q : U h = true
  · rw [if_pos q]
    have h1 := g.tot h hh
    obtain ⟨h2, h4⟩ := ht h hh q
    have h3 : sumN (fun o => if subB (from_ o) U = true then G o h else 0) K = sumN (fun o => G o h) K := sumN_congr fun o ho => by
      by_cases c : subB (from_ o) U = true
      · rw [if_pos c]
      · rw [if_neg c]
        have := g.giv o h ho hh
        by_cases c2 : 0 < G o h
        · exact absurd (subB_iff.2 (h4 o ho c2)) c
        · omega
    omega
  · rw [if_neg q]
    refine sumN_nonneg fun o ho => ?_
    split
    · exact g.giv o h ho hh
    · exact Int.le_refl _

structure Fed (nl : List (Int × Int)) (r0 : Nat → Int) (k : Nat) (m : Int) (x : Sh) : Prop where
  good : Good (frm nl) nl.length r0 x.room x.giv
  all : x.all = sumN (perNeed x.giv) nl.length
  later : ∀ o, o < nl.length → k < o → perNeed x.giv o = 0
  now : k < nl.length → perNeed x.giv k = m
  most : ∀ o, o < k → perNeed x.giv o ≤ rats nl o
  tight : ∃ U, Tight (frm nl) nl.length U x.room x.giv ∧ ∀ o, o < k → perNeed x.giv o = rats nl o ∨ SubS (frm nl o) U
  whole : x.torn = false → ∀ o, o < k → perNeed x.giv o = rats nl o
  short : x.torn = true → x.short < 64 ∧ Tight (frm nl) nl.length x.short.testBit x.room x.giv ∧ ∃ o, o < k ∧ o < nl.length ∧ SubS (frm nl o) x.short.testBit ∧ perNeed x.giv o < rats nl o

theorem Fed.all_bound {nl : List (Int × Int)} {r0 : Nat → Int} {k : Nat} {m : Int} {x : Sh} (h : Fed nl r0 k m x) (hr0 : ∀ h, h < 6 → r0 h ≤ 1000) : 0 ≤ x.all ∧ x.all ≤ 6000 := by
  have g := h.good
  rw [h.all]
  constructor
  · exact sumN_nonneg fun o ho => sumN_nonneg fun j hj => g.giv o j ho hj
  · have h1 : sumN (perNeed x.giv) nl.length = sumN (fun j => sumN (fun o => x.giv o j) nl.length) 6 := sumN_swap x.giv nl.length 6
    rw [h1]
    have h2 : sumN (fun j => sumN (fun o => x.giv o j) nl.length) 6 ≤ 1000 * (6 : Nat) := sumN_bound fun j hj => by
      have := g.tot j hj; have := g.room j hj; have := hr0 j hj
      omega
    omega

theorem Tight.of_same {from_ : Nat → Nat} {K : Nat} {T : Nat → Bool} {R R' : Nat → Int} {G G' : Nat → Nat → Int} (h : Tight from_ K T R G) (e : ∀ h, h < 6 → T h = true → R' h = R h ∧ ∀ o, G' o h = G o h) : Tight from_ K T R' G' := by
  intro j hj ht
  obtain ⟨e1, e2⟩ := e j hj ht
  obtain ⟨h1, h2⟩ := h j hj ht
  exact ⟨by omega, fun o ho hp => h2 o ho (by rw [← e2 o]; exact hp)⟩
theorem Tight.or {from_ : Nat → Nat} {K : Nat} {T U : Nat → Bool} {R : Nat → Int} {G : Nat → Nat → Int} (h : Tight from_ K T R G) (k : Tight from_ K U R G) : Tight from_ K (fun j => T j || U j) R G := by
  intro j hj ht
  cases q : T j
  · have h2 := k j hj (by simpa [q] using ht)
    exact ⟨h2.1, fun o ho hp => (h2.2 o ho hp).mono fun x _ hx => by rw [hx]; simp⟩
  · have h2 := h j hj q
    exact ⟨h2.1, fun o ho hp => (h2.2 o ho hp).mono fun x _ hx => by rw [hx]; simp⟩

theorem shRep_fed {nl : List (Int × Int)} {r0 : Nat → Int} (hr0 : ∀ h, h < 6 → r0 h ≤ 1000) (k : Nat) (hk : k < nl.length) : ∀ (n : Nat) (m : Int) (x : Sh), Fed nl r0 k m x → m + n = rats nl k → Fed nl r0 (k + 1) 0 (shRep nl k n x)
  | 0, m, x, f, e => by
    have hm := f.now hk
    have hx : shRep nl k 0 x = x := rfl
    rw [hx]
    obtain ⟨U, hU, hU2⟩ := f.tight
    have e' : perNeed x.giv k = rats nl k := by rw [hm]; simpa using e
    refine ⟨f.good, f.all, fun o ho h => f.later o ho (by omega), fun h => f.later _ h (by omega), fun o ho => ?_, ⟨U, hU, fun o ho => ?_⟩, fun ht o ho => ?_, fun ht => ?_⟩
    · rcases Nat.lt_succ_iff_lt_or_eq.1 ho with q | q
      · exact f.most o q
      · subst q; omega
    · rcases Nat.lt_succ_iff_lt_or_eq.1 ho with q | q
      · exact hU2 o q
      · subst q; exact .inl e'
    · rcases Nat.lt_succ_iff_lt_or_eq.1 ho with q | q
      · exact f.whole ht o q
      · subst q; exact e'
    · obtain ⟨h1, h2, o, h3, h4⟩ := f.short ht
      exact ⟨h1, h2, o, by omega, h4⟩
  | n + 1, m, x, f, e => by
    obtain ⟨U, hU, hU2⟩ := f.tight
    have hb := f.all_bound hr0
    have z64 : (0 : Nat) < 64 := by decide
    cases q : (putF nl k x.room x.giv).1
    · rw [shRep_no q]
      have hs : (putF nl k x.room x.giv).2.room = x.room ∧ (putF nl k x.room x.giv).2.giv = x.giv := tryF_fail _ _ 7 k _ q
      have hc := tryF_closed (frm nl) nl.length 7 k ⟨0, x.room, x.giv⟩ hk z64 (show untried 0 < 7 by decide) q
      have h64 : (putF nl k x.room x.giv).2.t < 64 := (tryF_sub (frm nl) nl.length 7 k ⟨0, x.room, x.giv⟩ z64).1
      have hT : Tight (frm nl) nl.length (putF nl k x.room x.giv).2.t.testBit x.room x.giv := fun j hj ht => hc.2 j hj ht (by simp)
      have hsub : SubS (frm nl k) (putF nl k x.room x.giv).2.t.testBit := hc.1
      have hm := f.now hk
      have er : (x.no (putF nl k x.room x.giv).2).room = x.room := hs.1
      have eg : (x.no (putF nl k x.room x.giv).2).giv = x.giv := hs.2
      refine ⟨by rw [er, eg]; exact f.good, by rw [eg]; exact f.all, fun o ho h => by rw [eg]; exact f.later o ho (by omega), fun h => by rw [eg]; exact f.later _ h (by omega), fun o ho => ?_, ⟨fun j => U j || (putF nl k x.room x.giv).2.t.testBit j, ?_, fun o ho => ?_⟩, fun ht => ?_, fun ht => ?_⟩
      · rw [eg]
        rcases Nat.lt_succ_iff_lt_or_eq.1 ho with q | q
        · exact f.most o q
        · subst q; omega
      · rw [er, eg]; exact hU.or hT
      · rw [eg]
        rcases Nat.lt_succ_iff_lt_or_eq.1 ho with q | q
        · rcases hU2 o q with c | c
          · exact .inl c
          · exact .inr (c.mono fun y _ hy => by rw [hy]; simp)
        · subst q; exact .inr (hsub.mono fun y _ hy => by rw [hy]; simp)
      · cases ht
      · rw [er, eg]
        cases ct : x.torn
        · have es : (x.no (putF nl k x.room x.giv).2).short = (putF nl k x.room x.giv).2.t := by simp [Sh.no, ct]
          rw [es]
          exact ⟨h64, hT, k, by omega, hk, hsub, by omega⟩
        · have es : (x.no (putF nl k x.room x.giv).2).short = x.short := by simp [Sh.no, ct]
          rw [es]
          obtain ⟨h1, h2, o, h3, h4⟩ := f.short ct
          exact ⟨h1, h2, o, by omega, h4⟩
    · rw [shRep_yes q]
      have st : Step (frm nl) nl.length r0 k ⟨0, x.room, x.giv⟩ (putF nl k x.room x.giv).2 := tryF_step (frm nl) nl.length r0 hr0 7 k ⟨0, x.room, x.giv⟩ hk z64 f.good q
      obtain ⟨s', hs'⟩ : ∃ s', (putF nl k x.room x.giv).2 = s' := ⟨_, rfl⟩
      rw [hs'] at st ⊢
      have hm := f.now hk
      have h1 : perNeed s'.giv k = m + 1 := by rw [st.one]; show perNeed x.giv k + 1 = _; omega
      have h2 : ∀ o, o ≠ k → perNeed s'.giv o = perNeed x.giv o := fun o ho => st.other o ho
      have hsame : ∀ T, Tight (frm nl) nl.length T x.room x.giv → Tight (frm nl) nl.length T s'.room s'.giv := fun T hT => hT.of_same (st.tight T hT)
      refine shRep_fed hr0 k hk n (m + 1) (x.yes s') ⟨st.good, ?_, fun o ho h => ?_, fun _ => h1, fun o ho => ?_, ⟨U, hsame U hU, fun o ho => ?_⟩, fun ht o ho => ?_, fun ht => ?_⟩ (by omega)
      · show incW x.all = _
        rw [incW_id hb.1 (by omega), f.all]
        have h3 := sumN_set (perNeed x.giv) k (m + 1) nl.length
        rw [if_pos hk] at h3
        have h4 : sumN (perNeed (x.yes s').giv) nl.length = sumN (fun j => if j = k then m + 1 else perNeed x.giv j) nl.length := sumN_congr fun i hi => by
          show perNeed s'.giv i = _
          by_cases c : i = k
          · rw [if_pos c, c]; exact h1
          · rw [if_neg c]; exact h2 i c
        rw [h4, h3]; omega
      · show perNeed s'.giv o = 0
        rw [h2 o (by omega)]; exact f.later o ho h
      · show perNeed s'.giv o ≤ _
        rw [h2 o (by omega)]; exact f.most o ho
      · show perNeed s'.giv o = _ ∨ _
        rw [h2 o (by omega)]; exact hU2 o ho
      · show perNeed s'.giv o = _
        rw [h2 o (by omega)]; exact f.whole ht o ho
      · obtain ⟨a1, a2, o, a3, a4, a5, a6⟩ := f.short ht
        exact ⟨a1, hsame _ a2, o, a3, a4, a5, by show perNeed s'.giv o < _; rw [h2 o (by omega)]; exact a6⟩

theorem share_fed (nl : List (Int × Int)) (rl : List Int) (hrl : ∀ h, h < 6 → 0 ≤ nth rl h ∧ nth rl h ≤ 1000) (hnl : ∀ k, k < nl.length → 0 ≤ rats nl k) : Fed nl (nth rl) nl.length 0 (shareF nl rl) := by
  have key : ∀ n, n ≤ nl.length → Fed nl (nth rl) n 0 ((List.range n).foldl (shNeed nl) (sh0 rl)) := by
    intro n
    induction n with
    | zero =>
      intro _
      refine ⟨⟨fun h hh => (hrl h hh).1, fun _ _ _ _ => Int.le_refl _, fun _ _ _ _ h => absurd h (by show ¬ (0 : Int) < 0; decide), fun h hh => ?_⟩, ?_, fun o _ _ => sumN_zero 6, fun _ => sumN_zero 6, fun o h => by omega, ⟨fun _ => false, fun _ _ h => (by cases h), fun o h => (by omega)⟩, fun _ o h => (by omega), fun h => (by cases h)⟩
      · show nth rl h + sumN (fun _ => 0) nl.length = _
        rw [sumN_zero]; omega
      · show (0 : Int) = sumN (fun o => sumN (fun _ => 0) 6) nl.length
        simp only [sumN_zero]
    | succ n ih =>
      intro hn
      rw [List.range_succ, List.foldl_append]
      simp only [List.foldl_cons, List.foldl_nil]
      have h1 := hnl n (by omega)
      exact shRep_fed (fun h hh => (hrl h hh).2) n (by omega) _ 0 _ (ih (by omega)) (by unfold rats at *; omega)
  exact key nl.length (Nat.le_refl _)

theorem all_split (nl : List (Int × Int)) (f : Nat → Int) (V : Nat → Bool) : sumN f nl.length = sumN (fun o => if subB (frm nl o) V = true then f o else 0) nl.length + sumN (fun o => if subB (frm nl o) V = true then 0 else f o) nl.length := by
  rw [← sumN_add]
  refine sumN_congr fun o ho => ?_
  split <;> simp
theorem Fed.le {nl : List (Int × Int)} {r0 : Nat → Int} {x : Sh} (f : Fed nl r0 nl.length 0 x) (V : Nat → Bool) : x.all ≤ roomsOf r0 V + elsewhere nl V := by
  rw [f.all, all_split nl (perNeed x.giv) V]
  have h1 := within_le f.good V
  have h2 : sumN (fun o => if subB (frm nl o) V = true then 0 else perNeed x.giv o) nl.length ≤ elsewhere nl V := sumN_le fun o ho => by
    split
    · exact Int.le_refl _
    · exact f.most o ho
  unfold withinOf at h1
  omega
theorem Fed.ge {nl : List (Int × Int)} {r0 : Nat → Int} {x : Sh} (f : Fed nl r0 nl.length 0 x) : ∃ U, roomsOf r0 U + elsewhere nl U = x.all := by
  obtain ⟨U, hU, h⟩ := f.tight
  refine ⟨U, ?_⟩
  rw [f.all, all_split nl (perNeed x.giv) U]
  have h1 := within_tight f.good hU
  have h2 : sumN (fun o => if subB (frm nl o) U = true then 0 else perNeed x.giv o) nl.length = elsewhere nl U := sumN_congr fun o ho => by
    by_cases q : subB (frm nl o) U = true
    · rw [if_pos q, if_pos q]
    · rw [if_neg q, if_neg q]
      rcases h o ho with c | c
      · exact c
      · exact absurd (subB_iff.2 c) q
  unfold withinOf at h1
  omega
theorem Fed.whole_all {nl : List (Int × Int)} {r0 : Nat → Int} {x : Sh} (f : Fed nl r0 nl.length 0 x) (h : x.torn = false) : x.all = sumN (rats nl) nl.length := by
  rw [f.all]; exact sumN_congr fun o ho => f.whole h o ho
theorem sumN_lt {f g : Nat → Int} {n k : Nat} (h : ∀ i, i < n → f i ≤ g i) (hk : k < n) (hlt : f k < g k) : sumN f n < sumN g n := by
  have h1 := sumN_ge (f := fun i => g i - f i) (n := n) (k := k) (fun i hi => by have := h i hi; omega) hk
  have h2 := sumN_add (fun i => g i - f i) f n
  have h3 : sumN (fun i => (g i - f i) + f i) n = sumN g n := sumN_congr fun i hi => by omega
  omega
theorem Fed.torn_all {nl : List (Int × Int)} {r0 : Nat → Int} {x : Sh} (f : Fed nl r0 nl.length 0 x) (h : x.torn = true) : x.all < sumN (rats nl) nl.length := by
  rw [f.all]
  obtain ⟨_, _, o, _, h4, _, h6⟩ := f.short h
  exact sumN_lt (fun i hi => f.most i hi) h4 h6
theorem Fed.torn_short {nl : List (Int × Int)} {r0 : Nat → Int} {x : Sh} (f : Fed nl r0 nl.length 0 x) (h : x.torn = true) : x.short < 64 ∧ roomsOf r0 x.short.testBit < ratsOf nl x.short.testBit := by
  obtain ⟨h1, h2, o, _, h4, h5, h6⟩ := f.short h
  refine ⟨h1, ?_⟩
  rw [← within_tight f.good h2]
  unfold withinOf ratsOf
  refine sumN_lt (k := o) (fun i hi => ?_) h4 ?_
  · split
    · exact f.most i hi
    · exact Int.le_refl _
  · rw [if_pos (subB_iff.2 h5), if_pos (subB_iff.2 h5)]; exact h6
end Go.Proofs.YtnhifinfjfpoiaaGreat

namespace Go.Proofs.YtnhifinfjfpoiaaGreat
open Go.RowKit
set_option linter.unusedVariables false

/-- Rooms of a set of houses, and rats that can come from elsewhere. -/
def capM (nl : List (Int × Int)) (r0 : Nat → Int) (m : Nat) : Int := roomsOf r0 m.testBit + elsewhere nl m.testBit
def minTo (nl : List (Int × Int)) (r0 : Nat → Int) : Nat → Int
  | 0 => capM nl r0 0
  | k + 1 => min (minTo nl r0 k) (capM nl r0 (k + 1))
def cutC (nl : List (Int × Int)) (r0 : Nat → Int) : Int := minTo nl r0 63
theorem minTo_le (nl : List (Int × Int)) (r0 : Nat → Int) : ∀ k m, m ≤ k → minTo nl r0 k ≤ capM nl r0 m
  | 0, m, h => by obtain rfl : m = 0 := by omega
                  exact Int.le_refl _
  | k + 1, m, h => by
    unfold minTo
    by_cases q : m = k + 1
    · rw [q]; omega
    · have := minTo_le nl r0 k m (by omega); omega
theorem minTo_mem (nl : List (Int × Int)) (r0 : Nat → Int) : ∀ k, ∃ m, m ≤ k ∧ minTo nl r0 k = capM nl r0 m
  | 0 => ⟨0, Nat.le_refl _, rfl⟩
  | k + 1 => by
    obtain ⟨m, h1, h2⟩ := minTo_mem nl r0 k
    unfold minTo
    by_cases q : minTo nl r0 k ≤ capM nl r0 (k + 1)
    · exact ⟨m, by omega, by rw [Int.min_eq_left q]; exact h2⟩
    · exact ⟨k + 1, Nat.le_refl _, by omega⟩
theorem subB_congr {f : Nat} {V U : Nat → Bool} (h : ∀ o, o < 6 → V o = U o) : subB f V = subB f U := by
  rw [Bool.eq_iff_iff, subB_iff, subB_iff]
  constructor
  · intro k o ho hf; rw [← h o ho]; exact k o ho hf
  · intro k o ho hf; rw [h o ho]; exact k o ho hf
theorem cap_congr (nl : List (Int × Int)) (r0 : Nat → Int) {V U : Nat → Bool} (h : ∀ o, o < 6 → V o = U o) : roomsOf r0 V + elsewhere nl V = roomsOf r0 U + elsewhere nl U := by
  have e1 : roomsOf r0 V = roomsOf r0 U := sumN_congr fun o ho => by rw [h o ho]
  have e2 : elsewhere nl V = elsewhere nl U := sumN_congr fun o ho => by rw [subB_congr h]
  rw [e1, e2]
theorem cap_mask (nl : List (Int × Int)) (r0 : Nat → Int) (V : Nat → Bool) : capM nl r0 (maskOf V) = roomsOf r0 V + elsewhere nl V :=
  cap_congr nl r0 fun o ho => maskOf_bit V o ho
theorem cut_le (nl : List (Int × Int)) (r0 : Nat → Int) (V : Nat → Bool) : cutC nl r0 ≤ roomsOf r0 V + elsewhere nl V := by
  rw [← cap_mask]
  exact minTo_le nl r0 63 _ (by have := maskOf_lt V; omega)
theorem cut_mem (nl : List (Int × Int)) (r0 : Nat → Int) : ∃ m, m < 64 ∧ cutC nl r0 = roomsOf r0 m.testBit + elsewhere nl m.testBit := by
  obtain ⟨m, h1, h2⟩ := minTo_mem nl r0 63
  exact ⟨m, by omega, h2⟩
theorem Fed.cut {nl : List (Int × Int)} {r0 : Nat → Int} {x : Sh} (f : Fed nl r0 nl.length 0 x) : x.all = cutC nl r0 := by
  obtain ⟨U, hU⟩ := f.ge
  obtain ⟨m, hm, e⟩ := cut_mem nl r0
  have h1 := f.le m.testBit
  have h2 := cut_le nl r0 U
  omega

theorem OkCol.rooms6 {c : Col} (ok : OkCol c) : ∀ h, h < 6 → 0 ≤ nth c.rooms h ∧ nth c.rooms h ≤ 60 := by
  intro h hh
  by_cases q : h < c.rooms.length
  · exact ok.room h q
  · have : nth c.rooms h = 0 := by unfold nth; rw [List.getD_eq_getElem?_getD, List.getElem?_eq_none (by omega)]; rfl
    omega
theorem roomsOf_bound {r0 : Nat → Int} {b : Int} (h : ∀ h, h < 6 → 0 ≤ r0 h ∧ r0 h ≤ b) (V : Nat → Bool) : 0 ≤ roomsOf r0 V ∧ roomsOf r0 V ≤ b * 6 := by
  constructor
  · exact sumN_nonneg fun i hi => by have := h i hi; split <;> omega
  · exact sumN_bound fun i hi => by have := h i hi; split <;> omega
theorem sub_all (f : Nat) : subB f (fun _ => true) = true := subB_iff.2 fun _ _ _ => rfl
theorem cut_rooms (nl : List (Int × Int)) (r0 : Nat → Int) : cutC nl r0 ≤ sumN r0 6 := by
  have h := cut_le nl r0 (fun _ => true)
  have h1 : elsewhere nl (fun _ => true) = 0 :=
    (sumN_congr (g := fun _ => 0) fun i hi => by rw [if_pos (sub_all _)]).trans (sumN_zero _)
  have h2 : roomsOf r0 (fun _ => true) = sumN r0 6 := sumN_congr fun i hi => by rw [if_pos rfl]
  omega
theorem elsewhere_nonneg {nl : List (Int × Int)} (h : ∀ k, k < nl.length → 0 ≤ rats nl k) (V : Nat → Bool) : 0 ≤ elsewhere nl V :=
  sumN_nonneg fun i hi => by have := h i hi; split <;> omega
theorem cut_nonneg {nl : List (Int × Int)} {r0 : Nat → Int} {b : Int} (h : ∀ k, k < nl.length → 0 ≤ rats nl k) (hr : ∀ h, h < 6 → 0 ≤ r0 h ∧ r0 h ≤ b) : 0 ≤ cutC nl r0 := by
  obtain ⟨m, _, e⟩ := cut_mem nl r0
  have h1 := (roomsOf_bound hr m.testBit).1
  have h2 := elsewhere_nonneg h m.testBit
  omega

theorem nthP_app (nl : List (Int × Int)) (q : Int × Int) (k : Nat) : nthP (nl ++ [q]) k = if k < nl.length then nthP nl k else if k = nl.length then q else (0, 0) := by
  unfold nthP
  rw [List.getD_eq_getElem?_getD, List.getD_eq_getElem?_getD]
  by_cases h : k < nl.length
  · rw [if_pos h, List.getElem?_append_left h]
  · rw [if_neg h, List.getElem?_append_right (by omega)]
    by_cases h2 : k = nl.length
    · rw [if_pos h2, h2]; simp
    · rw [if_neg h2, List.getElem?_eq_none (by simp; omega)]; rfl
theorem elsewhere_app (nl : List (Int × Int)) (x : Int) (f : Nat) (V : Nat → Bool) : elsewhere (nl ++ [(x, (f : Int))]) V = elsewhere nl V + (if subB f V = true then 0 else x) := by
  unfold elsewhere
  rw [List.length_append, List.length_singleton, sumN_succ]
  congr 1
  · refine sumN_congr fun i hi => ?_
    unfold rats frm
    rw [nthP_app, if_pos hi]
  · have e : nthP (nl ++ [(x, (f : Int))]) nl.length = (x, (f : Int)) := by rw [nthP_app, if_neg (Nat.lt_irrefl _), if_pos rfl]
    unfold rats frm
    rw [e]; simp
theorem rats_app {nl : List (Int × Int)} {x : Int} {f : Nat} (h : ∀ k, k < nl.length → 0 ≤ rats nl k) (hx : 0 ≤ x) : ∀ k, k < (nl ++ [(x, (f : Int))]).length → 0 ≤ rats (nl ++ [(x, (f : Int))]) k := by
  intro k hk
  rw [List.length_append, List.length_singleton] at hk
  unfold rats
  rw [nthP_app]
  by_cases q : k < nl.length
  · rw [if_pos q]; exact h k q
  · rw [if_neg q, if_pos (by omega)]; exact hx
/-- How many more there is room for. -/
theorem cut_more (nl : List (Int × Int)) (r0 : Nat → Int) {x : Int} (hx : 0 ≤ x) (f : Nat) : cutC nl r0 ≤ cutC (nl ++ [(x, (f : Int))]) r0 := by
  obtain ⟨m, _, e⟩ := cut_mem (nl ++ [(x, (f : Int))]) r0
  rw [e, elsewhere_app]
  have := cut_le nl r0 m.testBit
  split <;> omega
/-- More than there are rooms for makes no difference. -/
theorem cut_many (nl : List (Int × Int)) (r0 : Nat → Int) {x y : Int} (f : Nat) (hn : ∀ k, k < nl.length → 0 ≤ rats nl k) (hr : ∀ h, h < 6 → 0 ≤ r0 h) (hx : sumN r0 6 ≤ x) (hy : sumN r0 6 ≤ y) : cutC (nl ++ [(x, (f : Int))]) r0 = cutC (nl ++ [(y, (f : Int))]) r0 := by
  have key : ∀ {x y : Int}, sumN r0 6 ≤ x → sumN r0 6 ≤ y → cutC (nl ++ [(x, (f : Int))]) r0 ≤ cutC (nl ++ [(y, (f : Int))]) r0 := by
    intro x y hx hy
    obtain ⟨m, _, e⟩ := cut_mem (nl ++ [(y, (f : Int))]) r0
    have h1 := cut_le (nl ++ [(x, (f : Int))]) r0 m.testBit
    have h2 := cut_rooms (nl ++ [(x, (f : Int))]) r0
    rw [elsewhere_app] at e h1
    have h3 := elsewhere_nonneg hn m.testBit
    have h4 : 0 ≤ roomsOf r0 m.testBit := sumN_nonneg fun i hi => by have := hr i hi; split <;> omega
    by_cases q : subB f m.testBit = true
    · rw [if_pos q] at e h1; omega
    · rw [if_neg q] at e h1; omega
  exact Int.le_antisymm (key hx hy) (key hy hx)

/-- All that were caught. -/
def totC (c : Col) : Int := sumN (rats (needsC c)) (needsC c).length
theorem needs_nonneg {c : Col} (ok : OkCol c) : ∀ k, k < (needsC c).length → 0 ≤ rats (needsC c) k := fun k hk => (needs_rats ok k hk).1
theorem fit_fed {c : Col} (ok : OkCol c) : Fed (needsC c) (nth c.rooms) (needsC c).length 0 (fitX c) :=
  share_fed _ _ (fun h hh => by have := ok.rooms6 h hh; constructor <;> omega) (needs_nonneg ok)
theorem fit_cut {c : Col} (ok : OkCol c) : (fitX c).all = cutC (needsC c) (nth c.rooms) := (fit_fed ok).cut
theorem fit_torn {c : Col} (ok : OkCol c) : (fitX c).torn = decide (cutC (needsC c) (nth c.rooms) < totC c) := by
  cases h : (fitX c).torn
  · have := (fit_fed ok).whole_all h
    rw [fit_cut ok] at this
    rw [eq_comm, decide_eq_false_iff_not]
    unfold totC; omega
  · have := (fit_fed ok).torn_all h
    rw [fit_cut ok] at this
    rw [eq_comm, decide_eq_true_iff]
    exact this
theorem fit_err {c : Col} (ok : OkCol c) (h : checkC c = 0) : fitErr c = if cutC (needsC c) (nth c.rooms) < totC c then 7 else 0 := by
  unfold fitErr
  rw [if_pos h, fit_torn ok]
  simp
theorem fit_all {c : Col} (h : fitErr c = 0) : (fitX c).all = totC c := (fit_fed (okCol_of (fit_parts h).1)).whole_all (fit_parts h).2
theorem rooms_sum {c : Col} (ok : OkCol c) : 0 ≤ sumN (nth c.rooms) 6 ∧ sumN (nth c.rooms) 6 ≤ 360 := by
  constructor
  · exact sumN_nonneg fun i hi => (ok.rooms6 i hi).1
  · have := sumN_bound (n := 6) (f := nth c.rooms) (b := 60) fun i hi => (ok.rooms6 i hi).2
    omega
theorem fit_bound {c : Col} (ok : OkCol c) : 0 ≤ (fitX c).all ∧ (fitX c).all ≤ 360 := by
  rw [fit_cut ok]
  have h1 := cut_nonneg (needs_nonneg ok) ok.rooms6
  have h2 := cut_rooms (needsC c) (nth c.rooms)
  have h3 := rooms_sum ok
  omega
/-- How many rats more there is room for that can come from some houses. -/
def moreC (c : Col) (f : Nat) : Int := cutC (needsC c ++ [(361, (f : Int))]) (nth c.rooms)
theorem more_bound {c : Col} (ok : OkCol c) (f : Nat) : (fitX c).all ≤ moreC c f ∧ moreC c f ≤ 360 := by
  rw [fit_cut ok]
  have h1 := cut_more (needsC c) (nth c.rooms) (x := 361) (by decide) f
  have h2 := cut_rooms (needsC c ++ [(361, (f : Int))]) (nth c.rooms)
  have h3 := rooms_sum ok
  unfold moreC
  omega
theorem most_more {c : Col} (ok : OkCol c) (f : Nat) : mostC c (fitX c).all f = moreC c f - (fitX c).all := by
  have hf : Fed (needsC c ++ [(361, (f : Int))]) (nth c.rooms) (needsC c ++ [(361, (f : Int))]).length 0 (shareF (needsC c ++ [(361, (f : Int))]) c.rooms) :=
    share_fed _ _ (fun h hh => by have := ok.rooms6 h hh; constructor <;> omega) (rats_app (needs_nonneg ok) (by decide))
  unfold mostC
  rw [hf.cut]
  have h1 := more_bound ok f
  have h2 := fit_bound ok
  unfold moreC at h1 ⊢
  unfold wrap64; omega
theorem rats_more {c : Col} (ok : OkCol c) : ratsC c = ((fitX c).all, moreC c (unionN (leftC c))) := by
  unfold ratsC
  rw [most_more ok]
  have h1 := more_bound ok (unionN (leftC c))
  have h2 := fit_bound ok
  congr 1
  unfold wrap64; omega
end Go.Proofs.YtnhifinfjfpoiaaGreat

namespace Go.Proofs.YtnhifinfjfpoiaaGreat
open Go.RowKit
set_option linter.unusedVariables false
attribute [local go_sem] Oper.semAt_some

def growErr (c : Col) (p k : Int) : Int := if checkC c = 0 then (if inB p 0 100 = true ∧ inB k 0 20 = true then fitErr c else 4) else checkC c
/-- So many rats after some weeks. -/
def growN (p : Int) (n : Int) : Nat → Int
  | 0 => n
  | k + 1 => growN p n k + growN p n k * p / 100
def growC (c : Col) (p k : Int) : Int := growN p ((ratsC c).2 - (ratsC c).1) k.toNat
theorem growN_bound {p n : Int} (hp : 0 ≤ p ∧ p ≤ 100) (hn : 0 ≤ n ∧ n ≤ 360) : ∀ k, 0 ≤ growN p n k ∧ growN p n k ≤ 360 * 2 ^ k
  | 0 => by simp [growN]; omega
  | k + 1 => by
    obtain ⟨h1, h2⟩ := growN_bound hp hn k
    have h3 : 0 ≤ growN p n k * p := Int.mul_nonneg h1 hp.1
    have h4 : growN p n k * p ≤ growN p n k * 100 := Int.mul_le_mul_of_nonneg_left hp.2 h1
    have e : growN p n (k + 1) = growN p n k + growN p n k * p / 100 := rfl
    have h5 : (2 : Int) ^ (k + 1) = 2 ^ k * 2 := Int.pow_succ 2 k
    rw [e, h5]
    constructor <;> omega
theorem growN_bound20 {p n : Int} (hp : 0 ≤ p ∧ p ≤ 100) (hn : 0 ≤ n ∧ n ≤ 360) {k : Nat} (hk : k ≤ 20) : 0 ≤ growN p n k ∧ growN p n k ≤ 377487360 ∧ 0 ≤ growN p n k * p ∧ growN p n k * p ≤ 37748736000 := by
  obtain ⟨h1, h2⟩ := growN_bound hp hn k
  have h5 : (2 : Int) ^ k ≤ 2 ^ 20 := by
    have := Nat.pow_le_pow_right (n := 2) (by decide) hk
    exact_mod_cast this
  have h6 : (2 : Int) ^ 20 = 1048576 := by decide
  have h3 : 0 ≤ growN p n k * p := Int.mul_nonneg h1 hp.1
  have h4 : growN p n k * p ≤ growN p n k * 100 := Int.mul_le_mul_of_nonneg_left hp.2 h1
  refine ⟨h1, by omega, h3, by omega⟩
theorem grow_in {c : Col} {p k : Int} (h : growErr c p k = 0) : checkC c = 0 ∧ inB p 0 100 = true ∧ inB k 0 20 = true ∧ fitErr c = 0 := by
  unfold growErr at h
  by_cases q : checkC c = 0
  · rw [if_pos q] at h
    by_cases q2 : inB p 0 100 = true ∧ inB k 0 20 = true
    · rw [if_pos q2] at h; exact ⟨q, q2.1, q2.2, h⟩
    · rw [if_neg q2] at h; simp at h
  · rw [if_neg q] at h; exact absurd h q
theorem rats_bounds {c : Col} (ok : OkCol c) : 0 ≤ (ratsC c).1 ∧ (ratsC c).1 ≤ (ratsC c).2 ∧ (ratsC c).2 ≤ 360 := by
  rw [rats_more ok]
  have h1 := more_bound ok (unionN (leftC c))
  have h2 := fit_bound ok
  exact ⟨h2.1, h1.1, h1.2⟩

set_option maxRecDepth 100000 in
set_option maxHeartbeats 2000000 in
theorem Grow_ok (c : Col) (r t u n : Value) (p k : Int) (w : World) (hc : ColAt w w.heap.size r t u n c) (hk : growErr c p k = 0) :
    Calls Tryz.prog 36 #[.agg #[r, t, u, n], .int .i64 p, .int .i64 k] w fun e w' => e = .returned (.tuple #[.agg #[.int .i64 0, .int .i64 (growC c p k)], .int .i64 0]) ∧ Below w.heap.size w w' := by
  obtain ⟨k0, k1, k2, k3⟩ := grow_in hk
  have a := inB_true k2
  have hp := inB_true k1
  obtain ⟨K, rfl⟩ : ∃ K : Nat, k = K := ⟨k.toNat, by omega⟩
  have hK : K ≤ 20 := by omega
  have hrb := rats_bounds (okCol_of k0)
  have hBW : Below w.heap.size w ((w.alloc (.cells #[r, t, u, n] 26)).alloc (.cells #[.int .i64 0, .int .i64 0] 59)) := ((Below.refl w.heap.size w).alloc (Nat.le_refl _) _).alloc (by simp) _
  have hcA := (hc.below hBW (Nat.le_refl _)).mono (B' := ((w.alloc (.cells #[r, t, u, n] 26)).alloc (.cells #[.int .i64 0, .int .i64 0] 59)).heap.size) (by simp; omega)
  have HC := Lib.hid hcA
  have HCH := Lib.hid (check_any c r t u n _ hcA)
  have hs : ((w.alloc (.cells #[r, t, u, n] 26)).alloc (.cells #[.int .i64 0, .int .i64 0] 59)).heap[w.heap.size + 1]? = some (.cells #[.int .i64 0, .int .i64 0] 59 (0, 0)) := by
    have := heap_alloc_new (w.alloc (.cells #[r, t, u, n] 26)) (.cells #[.int .i64 0, .int .i64 0] 59)
    rw [World.size_alloc] at this
    exact this
  have hx0 : ((w.alloc (.cells #[r, t, u, n] 26)).alloc (.cells #[.int .i64 0, .int .i64 0] 59)).cell? ⟨w.heap.size, 0, none⟩ = some r ∧ ((w.alloc (.cells #[r, t, u, n] 26)).alloc (.cells #[.int .i64 0, .int .i64 0] 59)).cell? ⟨w.heap.size, 1, none⟩ = some t ∧ ((w.alloc (.cells #[r, t, u, n] 26)).alloc (.cells #[.int .i64 0, .int .i64 0] 59)).cell? ⟨w.heap.size, 2, none⟩ = some u ∧ ((w.alloc (.cells #[r, t, u, n] 26)).alloc (.cells #[.int .i64 0, .int .i64 0] 59)).cell? ⟨w.heap.size, 3, none⟩ = some n := by simp [go_sem]
  have HX := Lib.hid hx0
  obtain ⟨hr, htr, hu, hn⟩ := hc
  obtain ⟨ar, cr, rfl, _⟩ := hr.open
  obtain ⟨at_, ct, rfl, _⟩ := htr.open
  obtain ⟨au, cu, rfl, _⟩ := hu.open
  obtain ⟨an, cn, rfl, _⟩ := hn.open
  have HB := Lib.hid hBW
  have HS := Lib.hid hs
  have HF := Lib.hid k3
  rw [k0] at HCH
  have HK0 := Lib.hid k0
  clear hr htr hu hn hBW hk hcA hs hx0 k3 k0 a
  go_enter Tryz.func36, Tryz.ntmps36
  go_wp2_with fail
  refine HCH.out.mono ?_
  rintro e w1 ⟨rfl, hb1⟩
  have c0 := (hb1.cell (p := ⟨w.heap.size, 0, none⟩) (by simp; omega)).trans HX.out.1
  have c1 := (hb1.cell (p := ⟨w.heap.size, 1, none⟩) (by simp; omega)).trans HX.out.2.1
  have c2 := (hb1.cell (p := ⟨w.heap.size, 2, none⟩) (by simp; omega)).trans HX.out.2.2.1
  have c3 := (hb1.cell (p := ⟨w.heap.size, 3, none⟩) (by simp; omega)).trans HX.out.2.2.2
  have hs1 := (hb1.block (w.heap.size + 1) (by simp)).trans HS.out
  have HRT := Lib.hid (Rats_ok c _ _ _ _ w1 ((HC.out.below hb1 (Nat.le_refl _)).mono hb1.size) HF.out)
  have HD := Lib.hid (And.intro hb1 hs1)
  clear hb1 hs1
  go_wp2_with (first | (go_at_call 42; refine (in_any _ _ _ _).mono ?_; (first | rw [k1] | rw [k2]); rintro e w' ⟨rfl, rfl⟩) | (go_at_call 28; refine HRT.out.mono ?_; rintro e w2 ⟨rfl, hb2⟩; have H2 := Lib.hid hb2; clear hb2))
  have hw5 : ∀ W5, (w2.alloc (.cells #[.int .i64 (ratsC c).1, .int .i64 (ratsC c).2] 59)) = W5 → W5.heap[w.heap.size + 1]? = some (.cells #[.int .i64 0, .int .i64 0] 59 (0, 0)) ∧ Below w1.heap.size w1 W5 := by
    rintro _ rfl
    have hb2 := H2.out
    have hb3 : Below w1.heap.size w1 (w2.alloc (.cells #[.int .i64 (ratsC c).1, .int .i64 (ratsC c).2] 59)) := hb2.alloc hb2.size _
    exact ⟨(hb3.block _ (Nat.lt_of_lt_of_le (by simp) HD.out.1.size)).trans HD.out.2, hb3⟩
  obtain ⟨W5, hW5⟩ : ∃ W5, (w2.alloc (.cells #[.int .i64 (ratsC c).1, .int .i64 (ratsC c).2] 59)) = W5 := ⟨_, rfl⟩
  obtain ⟨s5, b5⟩ := hw5 _ hW5
  rw [hW5]
  have m0 := (cell_of_row W5 _ 0 _ _ _ s5).trans rfl
  have m1 := (cell_of_row W5 _ 1 _ _ _ s5).trans rfl
  have f0 := frozen_of_row W5 _ 0 _ _ s5
  have f1 := frozen_of_row W5 _ 1 _ _ s5
  have H5 := Lib.hid (And.intro s5 b5)
  have hn : 0 ≤ (ratsC c).2 - (ratsC c).1 ∧ (ratsC c).2 - (ratsC c).1 ≤ 360 := by omega
  clear hW5 hw5 s5 b5 c0 c1 c2 c3 hrb
  have HN := Lib.hid hn
  have HP := Lib.hid hp
  clear hn hp
  go_loopw [11, 42] (fun a i wr => ∃ k : Nat, k ≤ K ∧ i = .int .i64 k ∧ a = .int .i64 (growN p ((ratsC c).2 - (ratsC c).1) k) ∧ W5 = wr) (fun _ i _ => K - (intOf i).toNat)
  case atStart => exact ⟨0, Nat.zero_le _, rfl, rfl, rfl⟩
  case round =>
    obtain ⟨k, hk, rfl, rfl, rfl⟩ := hrel
    by_cases hlt : k < K
    · have hki : (k : Int) < K := by omega
      obtain ⟨g1, g2, g3, g4⟩ := growN_bound20 HP.out HN.out (k := k) (by omega)
      go_wp2_with fail
      go_roundw
      case rel => exact ⟨k + 1, by omega, by go_num, rfl, by simp⟩
      case measure => simp [intOf]; omega
    · obtain rfl : k = K := by omega
      go_wp2_with fail
      refine bodyPost_ret (v := .tuple #[.agg #[.int .i64 0, .int .i64 (growN p ((ratsC c).2 - (ratsC c).1) k)], .int .i64 0]) (by simp [results, Tryz.results36, go_sem, m0, m1]) rfl ⟨rfl, ?_⟩
      have h1 := HB.out.trans (HD.out.1.mono (by simp; omega))
      have h2 := h1.trans (H5.out.2.mono h1.size)
      exact (h2.setCell (p := ⟨w.heap.size + 1, 0, none⟩) (Nat.le_succ _) _).setCell (p := ⟨w.heap.size + 1, 1, none⟩) (Nat.le_succ _) _

set_option maxRecDepth 100000 in
set_option maxHeartbeats 2000000 in
theorem Grow_bad (c : Col) (r t u n : Value) (p k : Int) (w : World) (hc : ColAt w w.heap.size r t u n c) (hk : ¬ growErr c p k = 0) :
    Calls Tryz.prog 36 #[.agg #[r, t, u, n], .int .i64 p, .int .i64 k] w fun e w' => e = .returned (.tuple #[.agg #[.int .i64 0, .int .i64 0], .int .i64 (growErr c p k)]) ∧ Below w.heap.size w w' := by
  have hBW : Below w.heap.size w ((w.alloc (.cells #[r, t, u, n] 26)).alloc (.cells #[.int .i64 0, .int .i64 0] 59)) := ((Below.refl w.heap.size w).alloc (Nat.le_refl _) _).alloc (by simp) _
  have hcA := (hc.below hBW (Nat.le_refl _)).mono (B' := ((w.alloc (.cells #[r, t, u, n] 26)).alloc (.cells #[.int .i64 0, .int .i64 0] 59)).heap.size) (by simp; omega)
  have HC := Lib.hid hcA
  have HCH := Lib.hid (check_any c r t u n _ hcA)
  have hs : ((w.alloc (.cells #[r, t, u, n] 26)).alloc (.cells #[.int .i64 0, .int .i64 0] 59)).heap[w.heap.size + 1]? = some (.cells #[.int .i64 0, .int .i64 0] 59 (0, 0)) := by
    have := heap_alloc_new (w.alloc (.cells #[r, t, u, n] 26)) (.cells #[.int .i64 0, .int .i64 0] 59)
    rw [World.size_alloc] at this
    exact this
  have hx0 : ((w.alloc (.cells #[r, t, u, n] 26)).alloc (.cells #[.int .i64 0, .int .i64 0] 59)).cell? ⟨w.heap.size, 0, none⟩ = some r ∧ ((w.alloc (.cells #[r, t, u, n] 26)).alloc (.cells #[.int .i64 0, .int .i64 0] 59)).cell? ⟨w.heap.size, 1, none⟩ = some t ∧ ((w.alloc (.cells #[r, t, u, n] 26)).alloc (.cells #[.int .i64 0, .int .i64 0] 59)).cell? ⟨w.heap.size, 2, none⟩ = some u ∧ ((w.alloc (.cells #[r, t, u, n] 26)).alloc (.cells #[.int .i64 0, .int .i64 0] 59)).cell? ⟨w.heap.size, 3, none⟩ = some n := by simp [go_sem]
  have HX := Lib.hid hx0
  obtain ⟨hr, htr, hu, hn⟩ := hc
  obtain ⟨ar, cr, rfl, _⟩ := hr.open
  obtain ⟨at_, ct, rfl, _⟩ := htr.open
  obtain ⟨au, cu, rfl, _⟩ := hu.open
  obtain ⟨an, cn, rfl, _⟩ := hn.open
  have HB := Lib.hid hBW
  have HS := Lib.hid hs
  clear hr htr hu hn hBW hcA hs hx0
  by_cases q : checkC c = 0
  · rw [q] at HCH
    by_cases q2 : inB p 0 100 = true ∧ inB k 0 20 = true
    · have e : growErr c p k = fitErr c := by unfold growErr; rw [if_pos q, if_pos q2]
      rw [e] at hk ⊢
      obtain ⟨k1, k2⟩ := q2
      have hk1 : (fitErr c == 0) = false := by simpa using hk
      have hk2 : (fitErr c != 0) = true := by simp [bne, hk1]
      have HK := Lib.hid hk
      clear e q hk
      go_enter Tryz.func36, Tryz.ntmps36
      go_wp2_with fail
      refine HCH.out.mono ?_
      rintro e w1 ⟨rfl, hb1⟩
      have c0 := (hb1.cell (p := ⟨w.heap.size, 0, none⟩) (by simp; omega)).trans HX.out.1
      have c1 := (hb1.cell (p := ⟨w.heap.size, 1, none⟩) (by simp; omega)).trans HX.out.2.1
      have c2 := (hb1.cell (p := ⟨w.heap.size, 2, none⟩) (by simp; omega)).trans HX.out.2.2.1
      have c3 := (hb1.cell (p := ⟨w.heap.size, 3, none⟩) (by simp; omega)).trans HX.out.2.2.2
      have hs1 := (hb1.block (w.heap.size + 1) (by simp)).trans HS.out
      have HRT := Lib.hid (Rats_bad c _ _ _ _ w1 ((HC.out.below hb1 (Nat.le_refl _)).mono hb1.size) HK.out)
      have HD := Lib.hid (And.intro hb1 hs1)
      have hkey : ∀ W : World, Below w1.heap.size w1 W → W.cell? ⟨w.heap.size + 1, 0, none⟩ = some (.int .i64 0) ∧ W.cell? ⟨w.heap.size + 1, 1, none⟩ = some (.int .i64 0) ∧ W.frozen? ⟨w.heap.size + 1, 0, none⟩ = false ∧ W.frozen? ⟨w.heap.size + 1, 1, none⟩ = false := fun W hW => by
        have h := (hW.block (w.heap.size + 1) (Nat.lt_of_lt_of_le (by simp) hb1.size)).trans hs1
        exact ⟨(cell_of_row W _ 0 _ _ _ h).trans rfl, (cell_of_row W _ 1 _ _ _ h).trans rfl, frozen_of_row W _ 0 _ _ h, frozen_of_row W _ 1 _ _ h⟩
      have HK2 := Lib.hid hkey
      clear hb1 hs1 hkey
      go_wp2_with (first | (go_at_call 42; refine (in_any _ _ _ _).mono ?_; (first | rw [k1] | rw [k2]); rintro e w' ⟨rfl, rfl⟩) | (go_at_call 28; refine HRT.out.mono ?_; rintro e w2 ⟨rfl, hb2⟩; have H2 := Lib.hid hb2; obtain ⟨m0, m1, m2, m3⟩ := HK2.out _ (hb2.alloc hb2.size (.cells #[.int .i64 0, .int .i64 0] 59)); clear hb2))
      refine bodyPost_ret (v := .tuple #[.agg #[.int .i64 0, .int .i64 0], .int .i64 (fitErr c)]) (by simp [results, Tryz.results36, go_sem, m0, m1]) rfl ⟨rfl, ?_⟩
      have h1 := HB.out.trans (HD.out.1.mono (by simp; omega))
      have h2 := h1.trans ((H2.out.alloc H2.out.size (.cells #[.int .i64 0, .int .i64 0] 59)).mono h1.size)
      exact (h2.setCell (p := ⟨w.heap.size + 1, 0, none⟩) (Nat.le_succ _) _).setCell (p := ⟨w.heap.size + 1, 1, none⟩) (Nat.le_succ _) _
    · have e : growErr c p k = 4 := by unfold growErr; rw [if_pos q, if_neg q2]
      rw [e]
      have hcase : (inB p 0 100 = false) ∨ (inB p 0 100 = true ∧ inB k 0 20 = false) := by
        cases q3 : inB p 0 100 <;> cases q4 : inB k 0 20 <;> simp [q3, q4] at q2 ⊢
      clear e q hk q2
      rcases hcase with k1 | ⟨k1, k2⟩
      all_goals
        go_enter Tryz.func36, Tryz.ntmps36
        go_wp2_with fail
        refine HCH.out.mono ?_
        rintro e w1 ⟨rfl, hb1⟩
        have hs1 := (hb1.block (w.heap.size + 1) (by simp)).trans HS.out
        have m0 := (cell_of_row w1 _ 0 _ _ _ hs1).trans rfl
        have m1 := (cell_of_row w1 _ 1 _ _ _ hs1).trans rfl
        have m2 := frozen_of_row w1 _ 0 _ _ hs1
        have m3 := frozen_of_row w1 _ 1 _ _ hs1
        have HD := Lib.hid hb1
        clear hb1 hs1
        go_wp2_with (go_at_call 42; refine (in_any _ _ _ _).mono ?_; (first | rw [k1] | rw [k2]); rintro e w' ⟨rfl, rfl⟩)
        refine bodyPost_ret (v := .tuple #[.agg #[.int .i64 0, .int .i64 0], .int .i64 4]) (by simp [results, Tryz.results36, go_sem, m0, m1]) rfl ⟨rfl, ?_⟩
        have h1 := HB.out.trans (HD.out.mono (by simp; omega))
        exact (h1.setCell (p := ⟨w.heap.size + 1, 0, none⟩) (Nat.le_succ _) _).setCell (p := ⟨w.heap.size + 1, 1, none⟩) (Nat.le_succ _) _
  · have e : growErr c p k = checkC c := by unfold growErr; rw [if_neg q]
    rw [e]
    have hk1 : (checkC c == 0) = false := by simpa using q
    have hk2 : (checkC c != 0) = true := by simp [bne, hk1]
    clear hk q e
    go_enter Tryz.func36, Tryz.ntmps36
    go_wp2_with fail
    refine HCH.out.mono ?_
    rintro e w1 ⟨rfl, hb1⟩
    have hs1 := (hb1.block (w.heap.size + 1) (by simp)).trans HS.out
    have m0 := (cell_of_row w1 _ 0 _ _ _ hs1).trans rfl
    have m1 := (cell_of_row w1 _ 1 _ _ _ hs1).trans rfl
    have m2 := frozen_of_row w1 _ 0 _ _ hs1
    have m3 := frozen_of_row w1 _ 1 _ _ hs1
    have HD := Lib.hid hb1
    clear hb1 hs1
    go_wp2_with fail
    refine bodyPost_ret (v := .tuple #[.agg #[.int .i64 0, .int .i64 0], .int .i64 (checkC c)]) (by simp [results, Tryz.results36, go_sem, m0, m1]) rfl ⟨rfl, ?_⟩
    have h1 := HB.out.trans (HD.out.mono (by simp; omega))
    exact (h1.setCell (p := ⟨w.heap.size + 1, 0, none⟩) (Nat.le_succ _) _).setCell (p := ⟨w.heap.size + 1, 1, none⟩) (Nat.le_succ _) _
end Go.Proofs.YtnhifinfjfpoiaaGreat
