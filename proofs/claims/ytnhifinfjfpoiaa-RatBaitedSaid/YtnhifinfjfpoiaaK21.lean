/- Plain law of RatBaited: no fewer baits do, and houses that are apart are no more than baits. What the walk of RatBaited needs: the houses that are reached in new memory, and its question on each of them. -/
import Derived.Test.YtnhifinfjfpoiaaK19
import Derived.Test.YtnhifinfjfpoiaaK05
import Derived.Test.YtnhifinfjfpoiaaK14
import Derived.Deep.Onto
namespace Go.Proofs.Ytnhifinfjfpoiaa
open Go.RowKit
set_option linter.unusedVariables false
set_option linter.unusedSimpArgs false

/-- How many baits reach a house. -/
def timesN (c : Col) (R s n o : Nat) : Int := sumN (fun h => if s.testBit h = true ∧ (reachN c h R).testBit o = true then 1 else 0) n
theorem ind_nonneg (p : Prop) [Decidable p] : (0 : Int) ≤ (if p then 1 else 0) := by split <;> omega
theorem ind_le (p : Prop) [Decidable p] : (if p then 1 else 0 : Int) ≤ 1 := by split <;> omega
/-- Of which at most one is so. -/
theorem sum_one {p : Nat → Prop} [DecidablePred p] {n : Nat} (h : ∀ x y, x < n → y < n → p x → p y → x = y) : sumN (fun x => if p x then 1 else 0) n ≤ 1 := by
  induction n with
  | zero => show (0 : Int) ≤ 1; decide
  | succ n ih =>
    rw [sumN_succ]
    have h1 := ih (fun x y hx hy => h x y (by omega) (by omega))
    by_cases e : p n
    · rw [if_pos e]
      have h2 : sumN (fun x => if p x then (1 : Int) else 0) n = 0 := by
        exact (sumN_congr (g := fun _ => 0) fun i hi => if_neg fun q => by have := h i n (by omega) (by omega) q e; omega).trans (sumN_zero n)
      rw [h2]; decide
    · rw [if_neg e]; omega
section
variable {c : Col} {R s t : Nat}
theorem times_pos (hs : ∀ x, s.testBit x = true → x < c.rooms.length) {o : Nat} (h : ∃ b, s.testBit b = true ∧ (reachN c b R).testBit o = true) : 1 ≤ timesN c R s c.rooms.length o := by
  obtain ⟨b, h1, h2⟩ := h
  have := sumN_ge (f := fun h => if s.testBit h = true ∧ (reachN c h R).testBit o = true then (1 : Int) else 0) (n := c.rooms.length) (k := b) (fun i _ => ind_nonneg _) (hs b h1)
  rw [if_pos ⟨h1, h2⟩] at this
  exact this
theorem card_n {f n : Nat} (n6 : n ≤ 6) (h : ∀ x, f.testBit x = true → x < n) : ((members f).length : Int) = sumN (fun x => if f.testBit x = true then 1 else 0) n := by
  rw [card_sum, sumN_cut n6 (fun i h1 _ => if_neg fun hb => by have := h i hb; omega)]
/-- Houses that are apart are no more than baits. -/
theorem apart_few (ok : OkCol c) (hs : s < 64) (ht : t < 64) (hv : validB (allN c.rooms.length) (coverB c R (posC c)) s = true) (hu : validB (posC c) (apartB c R) t = true) : (members t).length ≤ (members s).length := by
  have n6 := ok.houses.2
  rw [cover_iff ok hs] at hv
  rw [apart_iff ok ht] at hu
  have a := card_n n6 (fun x hx => (hu.1 x hx).1)
  have b := card_n n6 hv.1
  have h1 : sumN (fun o => if t.testBit o = true then (1 : Int) else 0) c.rooms.length ≤ sumN (fun o => sumN (fun h => if t.testBit o = true ∧ s.testBit h = true ∧ (reachN c h R).testBit o = true then 1 else 0) c.rooms.length) c.rooms.length := sumN_le fun o ho => by
    show (if t.testBit o = true then (1 : Int) else 0) ≤ _
    split
    · rename_i e
      obtain ⟨q, q1, q2⟩ := hv.2 o ho (hu.1 o e).2
      have := sumN_ge (f := fun h => if t.testBit o = true ∧ s.testBit h = true ∧ (reachN c h R).testBit o = true then (1 : Int) else 0) (n := c.rooms.length) (k := q) (fun i _ => ind_nonneg _) (hv.1 q q1)
      rw [if_pos ⟨e, q1, q2⟩] at this
      exact this
    · exact sumN_nonneg fun i _ => ind_nonneg _
  rw [sumN_swap] at h1
  have h2 : sumN (fun h => sumN (fun o => if t.testBit o = true ∧ s.testBit h = true ∧ (reachN c h R).testBit o = true then (1 : Int) else 0) c.rooms.length) c.rooms.length ≤ sumN (fun h => if s.testBit h = true then (1 : Int) else 0) c.rooms.length := sumN_le fun h hh => by
    show _ ≤ (if s.testBit h = true then (1 : Int) else 0)
    by_cases e : s.testBit h = true
    · rw [if_pos e]
      exact sum_one fun x y _ _ hx hy => hu.2 h hh x y hx.1 hx.2.2 hy.1 hy.2.2
    · rw [if_neg e]
      have : sumN (fun o => if t.testBit o = true ∧ s.testBit h = true ∧ (reachN c h R).testBit o = true then (1 : Int) else 0) c.rooms.length = 0 := by
        exact (sumN_congr (g := fun _ => 0) fun i hi => if_neg fun q => e q.2.1).trans (sumN_zero _)
      omega
  omega
/-- Without any one bait some house is not reached. -/
theorem bait_alone (ok : OkCol c) (hs : s < 64) (hv : validB (allN c.rooms.length) (coverB c R (posC c)) s = true) (hmin : ∀ s', s' < 64 → validB (allN c.rooms.length) (coverB c R (posC c)) s' = true → (members s).length ≤ (members s').length) {b : Nat} (hb : s.testBit b = true) :
    ∃ o, o < c.rooms.length ∧ (reachN c b R).testBit o = true ∧ 0 < nth (afterC c) o ∧ timesN c R s c.rooms.length o = 1 := by
  refine Classical.byContradiction fun hno => ?_
  have n6 := ok.houses.2
  have hv' := (cover_iff ok hs).1 hv
  have hbn := hv'.1 b hb
  obtain ⟨s', hse⟩ : ∃ s', maskOf (fun y => s.testBit y && y != b) = s' := ⟨_, rfl⟩
  have hs' : s' < 64 := by rw [← hse]; exact maskOf_lt _
  have hbit : ∀ y, s'.testBit y = true ↔ s.testBit y = true ∧ y ≠ b := fun y => by
    constructor
    · intro h
      have h6 := bit6 hs' h
      rw [← hse, maskOf_bit _ y h6, Bool.and_eq_true] at h
      exact ⟨h.1, by simpa using h.2⟩
    · rintro ⟨h1, h2⟩
      rw [← hse, maskOf_bit _ y (bit6 hs h1), h1]
      simpa using h2
  have hval : validB (allN c.rooms.length) (coverB c R (posC c)) s' = true := (cover_iff ok hs').2 ⟨fun x hx => hv'.1 x ((hbit x).1 hx).1, fun x hx hp => by
    obtain ⟨q, q1, q2⟩ := hv'.2 x hx hp
    by_cases e : q = b
    · subst e
      have h1 := times_pos hv'.1 ⟨q, q1, q2⟩
      have h2 : timesN c R s c.rooms.length x ≠ 1 := fun h => hno ⟨x, hx, q2, hp, h⟩
      have h3 := sumN_set (fun h => if s.testBit h = true ∧ (reachN c h R).testBit x = true then (1 : Int) else 0) q 0 c.rooms.length
      rw [if_pos hbn, if_pos ⟨q1, q2⟩] at h3
      have h4 : 0 < sumN (fun j => if j = q then (0 : Int) else if s.testBit j = true ∧ (reachN c j R).testBit x = true then 1 else 0) c.rooms.length := by
        rw [h3]
        show 0 < timesN c R s c.rooms.length x - 1 + 0
        omega
      obtain ⟨k, hk, hpos⟩ := sumN_ex h4
      by_cases ek : k = q
      · simp only [if_pos ek] at hpos; omega
      · simp only [if_neg ek] at hpos
        by_cases ep : s.testBit k = true ∧ (reachN c k R).testBit x = true
        · exact ⟨k, (hbit k).2 ⟨ep.1, ek⟩, ep.2⟩
        · rw [if_neg ep] at hpos; omega
    · exact ⟨q, (hbit q).2 ⟨q1, e⟩, q2⟩⟩
  have h1 := hmin s' hs' hval
  have a := card_n n6 hv'.1
  have d := card_n n6 (fun x hx => hv'.1 x ((hbit x).1 hx).1)
  have e1 := sumN_set (fun x => if s.testBit x = true then (1 : Int) else 0) b 0 c.rooms.length
  rw [if_pos hbn, if_pos hb] at e1
  have e2 : sumN (fun x => if s'.testBit x = true then (1 : Int) else 0) c.rooms.length = sumN (fun j => if j = b then (0 : Int) else if s.testBit j = true then 1 else 0) c.rooms.length := sumN_congr fun x hx => by
    by_cases ex : x = b
    · rw [if_pos ex, if_neg (fun h => ((hbit x).1 h).2 ex)]
    · rw [if_neg ex]
      by_cases es : s.testBit x = true
      · rw [if_pos es, if_pos ((hbit x).2 ⟨es, ex⟩)]
      · rw [if_neg es, if_neg (fun h => es ((hbit x).1 h).1)]
  omega
end
/-- Baits that reach farther are no more. -/
theorem baits_far {c : Col} (ok : OkCol c) (R : Nat) : (baitsC c (R + 1)).length ≤ (baitsC c R).length := by
  obtain ⟨s, h1, h2, h3, _⟩ := baits_is ok R
  obtain ⟨t, _, _, k3, k4⟩ := baits_is ok (R + 1)
  rw [h3, k3, natsI_len, natsI_len]
  refine k4 s h1 ((cover_iff ok h1).2 ?_)
  have hv := (cover_iff ok h1).1 h2
  exact ⟨hv.1, fun x hx hp => by obtain ⟨b, b1, b2⟩ := hv.2 x hx hp; exact ⟨b, b1, reach_more c b R x b2⟩⟩
theorem baits_houses {c : Col} (ok : OkCol c) (R : Nat) : (baitsC c R).length ≤ c.rooms.length := by
  obtain ⟨s, h1, h2, h3, _⟩ := baits_is ok R
  rw [h3, natsI_len]
  have a := card_n ok.houses.2 ((cover_iff ok h1).1 h2).1
  have b := sumN_bound (f := fun x => if s.testBit x = true then (1 : Int) else 0) (n := c.rooms.length) (b := 1) (fun i _ => ind_le _)
  omega
/-- Where a rat can be, some house is told as apart. -/
theorem apart_some {c : Col} (ok : OkCol c) (R : Nat) {h : Nat} (hh : h < c.rooms.length) (hp : 0 < nth (afterC c) h) : 0 < (apartC c R).length := by
  obtain ⟨t, h1, h2, h3, h4⟩ := apart_is ok R
  rw [h3, natsI_len]
  have h6 : h < 6 := by have := ok.houses.2; omega
  have bit : ∀ x, (pw h).testBit x = true ↔ h = x := fun x => by rw [pw_bit, beq_iff_eq]
  have := h4 (pw h) (pw_lt h6) ((apart_iff ok (pw_lt h6)).2 ⟨fun x hx => by rw [← (bit x).1 hx]; exact ⟨hh, hp⟩, fun a _ x y hx _ hy _ => by rw [← (bit x).1 hx, ← (bit y).1 hy]⟩)
  have h5 : h ∈ members (pw h) := mem_members.2 ⟨h6, (bit h).2 rfl⟩
  have := List.length_pos_of_mem h5
  omega
end Go.Proofs.Ytnhifinfjfpoiaa

namespace Go.Proofs.Ytnhifinfjfpoiaa
open Go.RowKit
set_option linter.unusedVariables false
set_option linter.unusedSimpArgs false

theorem natsV_ints (l : List Nat) : natsV l = intsV (natsI l) := by simp [natsV, intsV, natsI]
theorem list_own (m : Nat) (hm : m < 64) (w : World) : Calls Try.prog 94 #[.int .i64 m] w fun e W' => ∃ v, e = .returned v ∧ W'.ownsRow w.heap.size 3 1 v (members m).length (intsV (natsI (members m))) ∧ Below w.heap.size w W' :=
  (callsIn_wide (n := 9)).1 ((list_in Fence.wide 9 m hm trivial trivial trivial trivial rfl (by decide) w).mono (by
    rintro e w' ⟨v, rfl, h, hb⟩
    exact ⟨v, rfl, by rw [← natsV_ints]; exact h, hb⟩))
set_option maxHeartbeats 1000000 in
theorem Reaches_own (c : Col) (r t u n : Value) (h m : Int) (w : World) (hc : ColAt w w.heap.size r t u n c) (hk : reachErr c h m = 0) :
    Calls Try.prog 49 #[.agg #[r, t, u, n], .int .i64 h, .int .i64 m] w fun e w' => ∃ v, e = .returned (.tuple #[v, .int .i64 0]) ∧ w'.ownsRow w.heap.size 3 1 v (members (reachN c h.toNat m.toNat)).length (intsV (natsI (members (reachN c h.toNat m.toNat)))) ∧ Below w.heap.size w w' := by
  have hBW := (Below.refl w.heap.size w).alloc (Nat.le_refl _) (.cells #[r, t, u, n] 26)
  obtain ⟨k0, k1, k2⟩ := reach_in hk
  have HCK := Lib.hid (opened_ok c r t u n _ ((hc.below hBW (Nat.le_refl _)).mono (by simp)) k0)
  obtain ⟨hr, htr, hu, hn⟩ := hc
  obtain ⟨ar, cr, rfl, _⟩ := hr.open
  obtain ⟨at_, ct, rfl, _⟩ := htr.open
  obtain ⟨au, cu, rfl, _⟩ := hu.open
  obtain ⟨an, cn, rfl, _⟩ := hn.open
  have HB := Lib.hid hBW
  have o2 := (okCol_of k0).houses.2
  have a := inB_true k1; have b := inB_true k2
  obtain ⟨H, rfl⟩ : ∃ H : Nat, h = H := ⟨h.toNat, by omega⟩
  obtain ⟨M, rfl⟩ : ∃ M : Nat, m = M := ⟨m.toNat, by omega⟩
  have hH : H < 6 := by omega
  have hM : M ≤ 3 := by omega
  clear hr htr hu hn hBW hk k0 a b
  go_enter Try.func49, Try.ntmps49
  go_wp2_with fail
  refine HCK.out.mono ?_
  rintro e w1 ⟨p, rfl, hb1, hd⟩
  have HD := Lib.hid (And.intro hb1 hd)
  clear hb1 hd
  go_wp2_with (first | (go_at_call 111; refine (dhouse_any c p _ _ HD.out.2).mono ?_; rw [k1]; rintro e w' ⟨rfl, rfl⟩) | (go_at_call 78; refine (in_any _ _ _ _).mono ?_; rw [k2]; rintro e w' ⟨rfl, rfl⟩) | (go_at_call 118; refine (reaches_any c p H M _ HD.out.2 hH hM).mono ?_; rintro e w2 ⟨rfl, hb2⟩; have H2 := Lib.hid hb2; clear hb2) | (go_at_call 94; refine (list_own _ (reachN_lt c H hH M) _).mono ?_; rintro e w3 ⟨v, rfl, hv, hb3⟩; have H3 := Lib.hid (And.intro hv hb3); clear hv hb3))
  go_ret2
  have h1 := HB.out.trans (HD.out.1.mono (by simp))
  have h2 := h1.trans (H2.out.mono h1.size)
  exact ⟨v, rfl, World.ownsRow.mono H3.out.1 h2.size, h2.trans (H3.out.2.mono h2.size)⟩
theorem btd1_any (b6 b14 ga gt n ca ct o : Nat) (x y : Int) (ho : o < n) (w : World) (h6 : w.cell? ⟨b6, 0, none⟩ = some (.slice (some ⟨ga, 0, none⟩) n ca)) (h14 : w.cell? ⟨b14, 0, none⟩ = some (.slice (some ⟨gt, 0, none⟩) n ct)) (ha : w.cell? ⟨ga, o, none⟩ = some (.int .i64 x)) (ht : w.cell? ⟨gt, o, none⟩ = some (.int .i64 y)) :
    Calls Try.prog 57 #[.int .i64 o, .pointer (some ⟨b6, 0, none⟩), .pointer (some ⟨b14, 0, none⟩)] w fun e w' => e = .returned (.bool (decide (0 < x) && decide (y = 1))) ∧ w = w' := by
  have hoi : (o : Int) < n := by omega
  by_cases hx : 0 < x
  · by_cases hy : y = 1
    · go_enter Try.func57, Try.ntmps57
      go_wp2_with fail
      go_ret
      exact ⟨ret_bool (by rw [decide_eq_true hx, decide_eq_true hy]; rfl), rfl⟩
    · go_enter Try.func57, Try.ntmps57
      go_wp2_with fail
      go_ret
      exact ⟨ret_bool (by rw [decide_eq_true hx, decide_eq_false hy]; simpa using hy), rfl⟩
  · go_enter Try.func57, Try.ntmps57
    go_wp2_with fail
    go_ret
    exact ⟨ret_bool (by rw [decide_eq_false (show ¬ 0 < x by omega)]; rfl), rfl⟩
/-- Some house that is reached has rats, and one bait alone. -/
theorem btd_any (b6 b14 ga gt n ca ct : Nat) (A : List Int) (f : Nat → Int) (v : Value) (l : List Nat) (w : World) (hl : IsInts w w.heap.size v (natsI l)) (hin : ∀ o ∈ l, o < n)
    (k6 : b6 < w.heap.size ∧ ga < w.heap.size) (k14 : b14 < w.heap.size ∧ gt < w.heap.size) (h6 : w.cell? ⟨b6, 0, none⟩ = some (.slice (some ⟨ga, 0, none⟩) n ca)) (h14 : w.cell? ⟨b14, 0, none⟩ = some (.slice (some ⟨gt, 0, none⟩) n ct))
    (ha : ∀ o, o < n → w.cell? ⟨ga, o, none⟩ = some (.int .i64 (nth A o))) (ht : ∀ o, o < n → w.cell? ⟨gt, o, none⟩ = some (.int .i64 (f o))) :
    Calls Try.prog 56 #[v, .func (.func 57) #[] #[.pointer (some ⟨b6, 0, none⟩), .pointer (some ⟨b14, 0, none⟩)]] w fun e w' => e = .returned (.bool (anyB (fun i => decide (0 < nth A (l.getD i 0)) && decide (f (l.getD i 0) = 1)) l.length)) ∧ Below w.heap.size w w' := by
  have e0 := hl.1
  rw [natsI_len] at e0
  refine containsInts_any v l.length _ _ _ (fun j => .int .i64 (nth (natsI l) j)) w e0 ⟨Try.call57, fun i hi w' hw hB => ?_⟩
  have hm : l.getD i 0 ∈ l := by rw [List.getD_eq_getElem?_getD, List.getElem?_eq_getElem hi]; exact List.getElem_mem hi
  have ho := hin _ hm
  have hn : nth (natsI l) i = ((l.getD i 0 : Nat) : Int) := by
    unfold natsI nth
    simp [List.getD_eq_getElem?_getD, hi]
  have e : (#[(fun j => Value.int .i64 (nth (natsI l) j)) i] ++ #[.pointer (some ⟨b6, 0, none⟩), .pointer (some ⟨b14, 0, none⟩)]) = #[.int .i64 ((l.getD i 0 : Nat) : Int), .pointer (some ⟨b6, 0, none⟩), .pointer (some ⟨b14, 0, none⟩)] := by
    simp only [hn]; rfl
  rw [e]
  have key : ∀ {b o : Nat} {v : Value}, b < w.heap.size → w.cell? ⟨b, o, none⟩ = some v → w'.cell? ⟨b, o, none⟩ = some v := fun h e => (hw.cell (p := ⟨_, _, none⟩) h).trans e
  refine (btd1_any b6 b14 ga gt n ca ct (l.getD i 0) _ _ ho w' (key k6.1 h6) (key k14.1 h14) (key k6.2 (ha _ ho)) (key k14.2 (ht _ ho))).mono ?_
  rintro e w'' ⟨rfl, rfl⟩
  exact ⟨rfl, Below.refl _ _⟩
/-- What the law asks of the baits of a colony, and of its houses that are apart. -/
structure BtdLaw (c : Col) (R s t : Nat) : Prop where
  sl : s < 64
  tl : t < 64
  bait : baitsC c R = natsI (members s)
  apart : apartC c R = natsI (members t)
  few : (members t).length ≤ (members s).length
  sIn : ∀ x, s.testBit x = true → x < c.rooms.length
  tIn : ∀ x, t.testBit x = true → 0 < nth (afterC c) x
  cover : ∀ x, x < c.rooms.length → 0 < nth (afterC c) x → 1 ≤ timesN c R s c.rooms.length x
  one : ∀ h, h < c.rooms.length → ∀ x y, t.testBit x = true → (reachN c h R).testBit x = true → t.testBit y = true → (reachN c h R).testBit y = true → x = y
  some : ∀ x, x < c.rooms.length → 0 < nth (afterC c) x → 0 < (members t).length
  alone : ∀ b, s.testBit b = true → ∃ o, o < c.rooms.length ∧ (reachN c b R).testBit o = true ∧ 0 < nth (afterC c) o ∧ timesN c R s c.rooms.length o = 1
theorem btd_law {c : Col} (ok : OkCol c) (R : Nat) : ∃ s t, BtdLaw c R s t := by
  obtain ⟨s, h1, h2, h3, h4⟩ := baits_is ok R
  obtain ⟨t, k1, k2, k3, k4⟩ := apart_is ok R
  have hv := (cover_iff ok h1).1 h2
  have hu := (apart_iff ok k1).1 k2
  refine ⟨s, t, h1, k1, h3, k3, apart_few ok h1 k1 h2 k2, hv.1, fun x hx => (hu.1 x hx).2, fun x hx hp => times_pos hv.1 (hv.2 x hx hp), hu.2, fun x hx hp => ?_, fun b hb => bait_alone ok h1 h2 h4 hb⟩
  have := apart_some ok R hx hp
  rwa [k3, natsI_len] at this
/-- Baits that reached the house o so far: all of the houses below h, and of those that house h reaches the first k. -/
def timesTo (c : Col) (R s h : Nat) (l : List Nat) (k o : Nat) : Int := timesN c R s h o + (if s.testBit h = true ∧ o ∈ l.take k then 1 else 0)
theorem timesN_bound (c : Col) (R s h o : Nat) : 0 ≤ timesN c R s h o ∧ timesN c R s h o ≤ h := by
  constructor
  · exact sumN_nonneg fun i _ => ind_nonneg _
  · have := sumN_bound (f := fun h => if s.testBit h = true ∧ (reachN c h R).testBit o = true then (1 : Int) else 0) (n := h) (b := 1) (fun i _ => ind_le _)
    unfold timesN; omega
theorem timesTo_zero (c : Col) (R s h : Nat) (l : List Nat) (o : Nat) : timesTo c R s h l 0 o = timesN c R s h o := by unfold timesTo; simp
theorem timesTo_all {c : Col} {R s h : Nat} (hr : reachN c h R < 64) (o : Nat) : timesTo c R s h (members (reachN c h R)) (members (reachN c h R)).length o = timesN c R s (h + 1) o := by
  unfold timesTo timesN
  rw [sumN_succ, List.take_length]
  congr 1
  by_cases e : s.testBit h = true ∧ (reachN c h R).testBit o = true
  · rw [if_pos e, if_pos ⟨e.1, mem_members.2 ⟨bit6 hr e.2, e.2⟩⟩]
  · rw [if_neg e, if_neg (fun q => e ⟨q.1, (mem_members.1 q.2).2⟩)]
theorem members_nodup (m : Nat) : (members m).Nodup := List.Pairwise.filter _ List.nodup_range
theorem timesTo_succ {c : Col} {R s h : Nat} {l : List Nat} (hn : l.Nodup) {k : Nat} (hk : k < l.length) (o : Nat) :
    timesTo c R s h l (k + 1) o = if s.testBit h = true ∧ o = l[k] then timesTo c R s h l k o + 1 else timesTo c R s h l k o := by
  unfold timesTo
  have hni : l[k] ∉ l.take k := fun hm => by
    obtain ⟨i, hi, e⟩ := List.getElem_of_mem hm
    rw [List.getElem_take] at e
    have hik : i < k := by simp at hi; omega
    exact (List.pairwise_iff_getElem.1 hn) i k (by omega) hk hik e
  have hmem : o ∈ l.take (k + 1) ↔ o ∈ l.take k ∨ o = l[k] := by
    rw [List.take_succ_eq_append_getElem hk, List.mem_append, List.mem_singleton]
  by_cases b : s.testBit h = true
  · by_cases e : o = l[k]
    · rw [if_pos ⟨b, hmem.2 (.inr e)⟩, if_pos ⟨b, e⟩, if_neg (fun q => hni (by rw [← e]; exact q.2))]; omega
    · by_cases q : o ∈ l.take k
      · rw [if_pos ⟨b, hmem.2 (.inl q)⟩, if_neg (fun q => e q.2), if_pos ⟨b, q⟩]
      · rw [if_neg (fun z => (hmem.1 z.2).elim q e), if_neg (fun q => e q.2), if_neg (fun z => q z.2)]
  · rw [if_neg (fun z => b z.1), if_neg (fun z => b z.1), if_neg (fun z => b z.1)]
/-- Of the first k houses of a list none is one of a set, or just one is. -/
def MetIs (t : Nat) (l : List Nat) (k : Nat) (M : Int) : Prop := (M = 0 ∧ ∀ i (hi : i < l.length), i < k → t.testBit l[i] = false) ∨ (M = 1 ∧ ∃ i, ∃ hi : i < l.length, i < k ∧ t.testBit l[i] = true)
theorem MetIs.zero (t : Nat) (l : List Nat) : MetIs t l 0 0 := .inl ⟨rfl, fun i _ h => by omega⟩
theorem MetIs.no {t : Nat} {l : List Nat} {k : Nat} {M : Int} (I : MetIs t l k M) (hk : k < l.length) (h : t.testBit l[k] = false) : MetIs t l (k + 1) M := by
  rcases I with ⟨a, b⟩ | ⟨a, i, hi, b, d⟩
  · exact .inl ⟨a, fun i hi hk' => by
      by_cases e : i = k
      · subst e; exact h
      · exact b i hi (by omega)⟩
  · exact .inr ⟨a, i, hi, by omega, d⟩
theorem MetIs.yes {t : Nat} {l : List Nat} {k : Nat} {M : Int} (I : MetIs t l k M) (hn : l.Nodup) (h1 : ∀ x y, x ∈ l → y ∈ l → t.testBit x = true → t.testBit y = true → x = y) (hk : k < l.length) (h : t.testBit l[k] = true) : M = 0 ∧ MetIs t l (k + 1) 1 := by
  rcases I with ⟨a, b⟩ | ⟨a, i, hi, b, d⟩
  · exact ⟨a, .inr ⟨rfl, k, hk, by omega, h⟩⟩
  · have := h1 _ _ (List.getElem_mem hi) (List.getElem_mem hk) d h
    exact absurd this ((List.pairwise_iff_getElem.1 hn) i k hi hk b)
theorem MetIs.le {t : Nat} {l : List Nat} {k : Nat} {M : Int} (I : MetIs t l k M) : 0 ≤ M ∧ M ≤ 1 := by rcases I with ⟨a, _⟩ | ⟨a, _⟩ <;> omega
end Go.Proofs.Ytnhifinfjfpoiaa
