/- Plain law of RatNamed: houses that are numbered otherwise. Contracts of the two questions of rat.Apart: more houses first, and whether houses are apart. Contract of rat.Apart. Plain law of baits and of houses that are apart: the best of all sets of houses. Contract of the chute's Shuffled: the numbers below n in some order. The colony that RatNamed makes: houses by their new names. -/
import Derived.Test.YtnhifinfjfpoiaaK18
import Derived.Test.YtnhifinfjfpoiaaK16
import Derived.Test.YtnhifinfjfpoiaaK07
import Derived.Test.YtnhifinfjfpoiaaK11
import Derived.Laws.OwnMore
namespace Go.Proofs.Ytnhifinfjfpoiaa
open Go.RowKit
set_option linter.unusedVariables false
set_option linter.unusedSimpArgs false

/-- Colony o is c with house x called p x; r turns it back. -/
structure Ren (n : Nat) (c o : Col) (p r : Nat → Nat) : Prop where
  lenC : c.rooms.length = n
  lenO : o.rooms.length = n
  okC : OkCol c
  okO : OkCol o
  pn : ∀ x, x < n → p x < n
  rn : ∀ x, x < n → r x < n
  rp : ∀ x, x < n → r (p x) = x
  pr : ∀ x, x < n → p (r x) = x
  room : ∀ x, x < n → nth o.rooms (p x) = nth c.rooms x
  trap : ∀ x, x < n → nth o.traps (p x) = nth c.traps x
  nightN : o.nights.length = c.nights.length
  night : ∀ i x, i < c.nights.length → x < n → nth (nthR o.nights i) (p x) = nth (nthR c.nights i) x
  goes : ∀ a b, a < n → b < n → goesB o (p a) (p b) = goesB c a b
theorem Ren.sym {n : Nat} {c o : Col} {p r : Nat → Nat} (I : Ren n c o p r) : Ren n o c r p :=
  ⟨I.lenO, I.lenC, I.okO, I.okC, I.rn, I.pn, I.pr, I.rp, fun x hx => by have := I.room (r x) (I.rn x hx); rw [I.pr x hx] at this; exact this.symm,
    fun x hx => by have := I.trap (r x) (I.rn x hx); rw [I.pr x hx] at this; exact this.symm, I.nightN.symm,
    fun i x hi hx => by have := I.night i (r x) (by rw [← I.nightN]; exact hi) (I.rn x hx); rw [I.pr x hx] at this; exact this.symm,
    fun a b ha hb => by have := I.goes (r a) (r b) (I.rn a ha) (I.rn b hb); rw [I.pr a ha, I.pr b hb] at this; exact this.symm⟩
theorem sumN_one {k n : Nat} (x : Int) (hk : k < n) : sumN (fun j => if j = k then x else 0) n = x := by
  have := sumN_set (fun _ => 0) k x n
  rw [if_pos hk, sumN_zero] at this
  rw [this]; omega
theorem sumN_perm {n : Nat} {p r : Nat → Nat} (pn : ∀ x, x < n → p x < n) (rn : ∀ x, x < n → r x < n) (rp : ∀ x, x < n → r (p x) = x) (pr : ∀ x, x < n → p (r x) = x) (F : Nat → Int) : sumN (fun x => F (p x)) n = sumN F n := by
  have e1 : sumN F n = sumN (fun y => sumN (fun x => if x = r y then F y else 0) n) n := sumN_congr fun y hy => (sumN_one (F y) (rn y hy)).symm
  rw [e1, sumN_swap]
  refine sumN_congr fun x hx => ?_
  have e2 : sumN (fun y => if x = r y then F y else 0) n = sumN (fun y => if y = p x then F (p x) else 0) n := sumN_congr fun y hy => by
    by_cases e : y = p x
    · subst e; rw [if_pos rfl, if_pos (rp x hx).symm]
    · rw [if_neg e, if_neg (fun h => e (by rw [h, pr y hy]))]
  rw [e2, sumN_one _ (pn x hx)]
/-- Two sets of houses, one by their new names. -/
structure MaskR (n : Nat) (p : Nat → Nat) (f g : Nat) : Prop where
  bit : ∀ x, x < n → g.testBit (p x) = f.testBit x
  inF : ∀ x, f.testBit x = true → x < n
  inG : ∀ x, g.testBit x = true → x < n
theorem bit6 {m x : Nat} (hm : m < 64) (h : m.testBit x = true) : x < 6 := by
  refine Classical.byContradiction fun e => ?_
  have : m < 2 ^ x := Nat.lt_of_lt_of_le hm (by have := Nat.pow_le_pow_right (n := 2) (by decide) (show 6 ≤ x by omega); simpa using this)
  rw [Nat.testBit_lt_two_pow this] at h
  cases h
section
variable {n : Nat} {c o : Col} {p r : Nat → Nat}
theorem Ren.n6 (I : Ren n c o p r) : n ≤ 6 := by rw [← I.lenC]; exact I.okC.houses.2
theorem Ren.inj (I : Ren n c o p r) {x y : Nat} (hx : x < n) (hy : y < n) (h : p x = p y) : x = y := by rw [← I.rp x hx, h, I.rp y hy]
theorem Ren.mask (I : Ren n c o p r) {f g : Nat} (h : MaskR n p f g) : MaskR n r g f := ⟨fun x hx => by rw [← h.bit (r x) (I.rn x hx), I.pr x hx], h.inG, h.inF⟩
theorem Ren.full (I : Ren n c o p r) {h k : Nat} (hh : h < n) (hk : k < c.nights.length) : fullB o (p h) k = fullB c h k := by unfold fullB; rw [I.night k h hk hh, I.trap h hh]
theorem Ren.come (I : Ren n c o p r) {f : Nat} (hf : f < n) : ∀ k h, h < n → k ≤ c.nights.length → comeB o (p f) k (p h) = comeB c f k h
  | 0, h, hh, _ => by
    unfold comeB
    rw [Bool.eq_iff_iff, beq_iff_eq, beq_iff_eq]
    exact ⟨fun e => I.inj hh hf e, fun e => by rw [e]⟩
  | k + 1, h, hh, hk => by
    unfold comeB
    rw [Bool.eq_iff_iff, anyB_ex, anyB_ex, I.lenC, I.lenO]
    have key : ∀ a, a < n → (comeB o (p f) k (p a) && fullB o (p a) k && goesB o (p a) (p h)) = (comeB c f k a && fullB c a k && goesB c a h) := fun a ha => by
      rw [I.come hf k a ha (by omega), I.full ha (by omega), I.goes a h ha hh]
    constructor
    · rintro ⟨a, ha, e⟩
      refine ⟨r a, I.rn a ha, ?_⟩
      rw [← key (r a) (I.rn a ha), I.pr a ha]; exact e
    · rintro ⟨a, ha, e⟩
      exact ⟨p a, I.pn a ha, by rw [key a ha]; exact e⟩
theorem Ren.org (I : Ren n c o p r) {k h : Nat} (hh : h < n) (hk : k ≤ c.nights.length) : MaskR n p (org c k h) (org o k (p h)) :=
  ⟨fun x hx => by
    rw [org_come I.okO k (p h) (p x) (by rw [I.lenO]; exact I.pn h hh) (by rw [I.lenO]; exact I.pn x hx) (by rw [I.nightN]; exact hk), org_come I.okC k h x (by rw [I.lenC]; exact hh) (by rw [I.lenC]; exact hx) hk, I.come hx k h hh hk],
    fun x hx => by rw [← I.lenC]; exact org_only I.okC k h x hx, fun x hx => by rw [← I.lenO]; exact org_only I.okO k (p h) x hx⟩
theorem Ren.left (I : Ren n c o p r) {h : Nat} (hh : h < n) : MaskR n p (leftC c h) (leftC o (p h)) :=
  ⟨fun x hx => by
    rw [left_bit I.okO (by rw [I.lenO]; exact I.pn h hh) (by rw [I.lenO]; exact I.pn x hx), left_bit I.okC (by rw [I.lenC]; exact hh) (by rw [I.lenC]; exact hx)]
    unfold stayB
    rw [I.nightN]
    split
    · exact I.come hx 0 h hh (by omega)
    · rw [I.come hx _ h hh (by omega), I.full hh (by omega)],
    fun x hx => by rw [← I.lenC]; exact (left_in I.okC hx).2, fun x hx => by rw [← I.lenO]; exact (left_in I.okO hx).2⟩
theorem Ren.union (I : Ren n c o p r) : MaskR n p (unionN (leftC c)) (unionN (leftC o)) := by
  have n6 := I.n6
  refine ⟨fun x hx => ?_, fun x hx => ?_, fun x hx => ?_⟩
  · unfold unionN
    rw [Bool.eq_iff_iff, union_bit, union_bit]
    constructor
    · rintro ⟨h, _, e⟩
      have hh : h < n := by rw [← I.lenO]; exact (left_in I.okO e).1
      refine ⟨r h, by have := I.rn h hh; omega, ?_⟩
      rw [← (I.left (I.rn h hh)).bit x hx, I.pr h hh]; exact e
    · rintro ⟨h, _, e⟩
      have hh : h < n := by rw [← I.lenC]; exact (left_in I.okC e).1
      refine ⟨p h, by have := I.pn h hh; omega, ?_⟩
      rw [(I.left hh).bit x hx]; exact e
  · unfold unionN at hx
    rw [union_bit] at hx
    obtain ⟨h, _, e⟩ := hx
    rw [← I.lenC]; exact (left_in I.okC e).2
  · unfold unionN at hx
    rw [union_bit] at hx
    obtain ⟨h, _, e⟩ := hx
    rw [← I.lenO]; exact (left_in I.okO e).2
theorem Ren.near (I : Ren n c o p r) {h : Nat} (hh : h < n) : MaskR n p (nearC c h) (nearC o (p h)) := by
  have n6 := I.n6
  have hp := I.pn h hh
  refine ⟨fun x hx => ?_, fun x hx => ?_, fun x hx => ?_⟩
  · have := I.pn x hx
    rw [nearC_bit (by rw [I.lenO]; exact hp) (by omega), nearC_bit (by rw [I.lenC]; exact hh) (by omega), I.goes h x hh hx]
  · rw [← I.lenC]; exact near_only I.okC (by rw [I.lenC]; exact hh) hx (bit6 (nearC_lt c h) hx)
  · rw [← I.lenO]; exact near_only I.okO (by rw [I.lenO]; exact hp) hx (bit6 (nearC_lt o (p h)) hx)
theorem Ren.needF (I : Ren n c o p r) {h : Nat} (hh : h < n) : MaskR n p (needFrom c h) (needFrom o (p h)) := by
  have n6 := I.n6
  have hN := I.near hh
  refine ⟨fun x hx => ?_, fun x hx => ?_, fun x hx => ?_⟩
  · unfold needFrom
    rw [Bool.eq_iff_iff, needAcc_bit, needAcc_bit]
    constructor
    · rintro ⟨a, h1, e⟩
      have ha := hN.inG a (mem_members.1 h1).2
      refine ⟨r a, mem_members.2 ⟨by have := I.rn a ha; omega, ?_⟩, ?_⟩
      · rw [← hN.bit (r a) (I.rn a ha), I.pr a ha]; exact (mem_members.1 h1).2
      · rw [← (I.left (I.rn a ha)).bit x hx, I.pr a ha]; exact e
    · rintro ⟨a, h1, e⟩
      have ha := hN.inF a (mem_members.1 h1).2
      refine ⟨p a, mem_members.2 ⟨by have := I.pn a ha; omega, ?_⟩, ?_⟩
      · rw [hN.bit a ha]; exact (mem_members.1 h1).2
      · rw [(I.left ha).bit x hx]; exact e
  · unfold needFrom at hx
    rw [needAcc_bit] at hx
    obtain ⟨a, _, e⟩ := hx
    rw [← I.lenC]; exact (left_in I.okC e).2
  · unfold needFrom at hx
    rw [needAcc_bit] at hx
    obtain ⟨a, _, e⟩ := hx
    rw [← I.lenO]; exact (left_in I.okO e).2
theorem Ren.sub (I : Ren n c o p r) {f g : Nat} (h : MaskR n p f g) (V : Nat → Bool) : subB g (fun y => V (r y)) = subB f V := by
  have n6 := I.n6
  rw [Bool.eq_iff_iff, subB_iff, subB_iff]
  constructor
  · intro s x hx hb
    have hxn := h.inF x hb
    have : V (r (p x)) = true := s (p x) (by have := I.pn x hxn; omega) (by rw [h.bit x hxn]; exact hb)
    rw [I.rp x hxn] at this; exact this
  · intro s x hx hb
    have hxn := h.inG x hb
    exact s (r x) (by have := I.rn x hxn; omega) (by rw [← h.bit (r x) (I.rn x hxn), I.pr x hxn]; exact hb)
theorem Ren.sum (I : Ren n c o p r) (F : Nat → Int) : sumN (fun x => F (p x)) n = sumN F n := sumN_perm I.pn I.rn I.rp I.pr F
theorem Ren.roomsOf (I : Ren n c o p r) {r0 r1 : Nat → Int} (z0 : ∀ x, n ≤ x → r0 x = 0) (z1 : ∀ x, n ≤ x → r1 x = 0) (e : ∀ x, x < n → r1 (p x) = r0 x) (V : Nat → Bool) : roomsOf r1 (fun y => V (r y)) = roomsOf r0 V := by
  unfold Go.Proofs.Ytnhifinfjfpoiaa.roomsOf
  rw [sumN_cut I.n6 (fun i h1 _ => by rw [z1 i h1]; split <;> rfl), sumN_cut I.n6 (fun i h1 _ => by rw [z0 i h1]; split <;> rfl), ← I.sum (fun y => if V (r y) = true then r1 y else 0)]
  exact sumN_congr fun x hx => by rw [I.rp x hx, e x hx]
end
/-- A sum over all needs, night by night and house by house. -/
theorem needs_sum (c : Col) (F : Int × Int → Int) : sumN (fun k => F (nthP (needsC c) k)) (needsC c).length = sumN (fun i => sumN (fun j => F (nth (nthR c.nights i) j, (org c i j : Int))) c.rooms.length) c.nights.length := by
  have row : ∀ i, sumN (fun k => F (nthP (needRow c i) k)) (needRow c i).length = sumN (fun j => F (nth (nthR c.nights i) j, (org c i j : Int))) c.rooms.length := fun i => by
    rw [needRow_len]
    exact sumN_congr fun j hj => by
      have : nthP (needRow c i) j = (nth (nthR c.nights i) j, (org c i j : Int)) := by unfold needRow nthP; simp [hj]
      rw [this]
  have app : ∀ (a b : List (Int × Int)), sumN (fun k => F (nthP (a ++ b) k)) (a ++ b).length = sumN (fun k => F (nthP a k)) a.length + sumN (fun k => F (nthP b k)) b.length := fun a b => by
    rw [List.length_append, sumN_append]
    congr 1
    · exact sumN_congr fun i hi => by unfold nthP; rw [List.getD_eq_getElem?_getD, List.getD_eq_getElem?_getD, List.getElem?_append_left hi]
    · exact sumN_congr fun i hi => by unfold nthP; rw [List.getD_eq_getElem?_getD, List.getD_eq_getElem?_getD, List.getElem?_append_right (by omega), Nat.add_sub_cancel_left]
  have key : ∀ k, sumN (fun i => F (nthP (needsUp c k) i)) (needsUp c k).length = sumN (fun i => sumN (fun j => F (nth (nthR c.nights i) j, (org c i j : Int))) c.rooms.length) k := by
    intro k
    induction k with
    | zero => rfl
    | succ k ih => rw [needsUp_succ, app, ih, row, sumN_succ]
  exact key _
theorem own_sum (nl : List (Int × Int)) (h : Nat) : ∀ k, ownTo nl h k = sumN (fun i => if (frm nl i).testBit h = true then rats nl i else 0) k
  | 0 => rfl
  | k + 1 => by
    rw [sumN_succ, ← own_sum nl h k]
    show (if (frm nl k).testBit h = true then _ else _) = _
    split
    · rfl
    · rw [Int.add_zero]
section
variable {n : Nat} {c o : Col} {p r : Nat → Nat}
theorem Ren.needs (I : Ren n c o p r) (F G : Int × Int → Int) (h : ∀ (q : Int) (f g : Nat), MaskR n p f g → G (q, (g : Int)) = F (q, (f : Int))) : sumN (fun k => G (nthP (needsC o) k)) (needsC o).length = sumN (fun k => F (nthP (needsC c) k)) (needsC c).length := by
  rw [needs_sum, needs_sum, I.nightN, I.lenC, I.lenO]
  refine sumN_congr fun i hi => ?_
  rw [← I.sum (fun j => G (nth (nthR o.nights i) j, (Go.Proofs.Ytnhifinfjfpoiaa.org o i j : Int)))]
  exact sumN_congr fun x hx => by
    rw [I.night i x hi hx]
    exact h _ _ _ (I.org hx (by omega))
theorem Ren.elsewhere (I : Ren n c o p r) (V : Nat → Bool) : elsewhere (needsC o) (fun y => V (r y)) = elsewhere (needsC c) V :=
  I.needs (fun q => if subB q.2.toNat V = true then 0 else q.1) (fun q => if subB q.2.toNat (fun y => V (r y)) = true then 0 else q.1) (fun q f g h => by
    show (if subB ((g : Int)).toNat _ = true then (0 : Int) else q) = (if subB ((f : Int)).toNat V = true then 0 else q)
    rw [Int.toNat_natCast, Int.toNat_natCast, I.sub h V])
theorem Ren.tot (I : Ren n c o p r) : totC o = totC c := I.needs (fun q => q.1) (fun q => q.1) (fun _ _ _ _ => rfl)
theorem Ren.cut_le (I : Ren n c o p r) {r0 r1 : Nat → Int} (z0 : ∀ x, n ≤ x → r0 x = 0) (z1 : ∀ x, n ≤ x → r1 x = 0) (e : ∀ x, x < n → r1 (p x) = r0 x) : cutC (needsC o) r1 ≤ cutC (needsC c) r0 := by
  obtain ⟨m, _, h⟩ := cut_mem (needsC c) r0
  have a := Go.Proofs.Ytnhifinfjfpoiaa.cut_le (needsC o) r1 (fun y => m.testBit (r y))
  rw [I.roomsOf z0 z1 e, I.elsewhere] at a
  omega
theorem Ren.back (I : Ren n c o p r) {r0 r1 : Nat → Int} (e : ∀ x, x < n → r1 (p x) = r0 x) : ∀ x, x < n → r0 (r x) = r1 x := fun x hx => by rw [← e (r x) (I.rn x hx), I.pr x hx]
theorem Ren.cut (I : Ren n c o p r) {r0 r1 : Nat → Int} (z0 : ∀ x, n ≤ x → r0 x = 0) (z1 : ∀ x, n ≤ x → r1 x = 0) (e : ∀ x, x < n → r1 (p x) = r0 x) : cutC (needsC o) r1 = cutC (needsC c) r0 :=
  Int.le_antisymm (I.cut_le z0 z1 e) (I.sym.cut_le z1 z0 (I.back e))
theorem nth_over {l : List Int} {x : Nat} (h : l.length ≤ x) : nth l x = 0 := by unfold nth; rw [List.getD_eq_getElem?_getD, List.getElem?_eq_none h]; rfl
theorem Ren.more_le (I : Ren n c o p r) {f g : Nat} (h : MaskR n p f g) : moreC o g ≤ moreC c f := by
  obtain ⟨V, v1, v2⟩ := more_mem I.okC f
  have a := Go.Proofs.Ytnhifinfjfpoiaa.more_le o (f := g) (V := fun y => V (r y)) (by rw [I.sub h V]; exact v1)
  unfold capV at a v2
  rw [I.elsewhere, I.roomsOf (r0 := nth c.rooms) (fun x hx => nth_over (by rw [I.lenC]; exact hx)) (fun x hx => nth_over (by rw [I.lenO]; exact hx)) I.room] at a
  omega
theorem Ren.more (I : Ren n c o p r) {f g : Nat} (h : MaskR n p f g) : moreC o g = moreC c f := Int.le_antisymm (I.more_le h) (I.sym.more_le (I.mask h))
theorem Ren.fit (I : Ren n c o p r) (hk : fitErr c = 0) : fitErr o = 0 := by
  have q := check_of_ok I.okO
  have a := fit_err I.okC (fit_parts hk).1
  rw [hk] at a
  rw [fit_err I.okO q, I.tot, I.cut (r0 := nth c.rooms) (fun x hx => nth_over (by rw [I.lenC]; exact hx)) (fun x hx => nth_over (by rw [I.lenO]; exact hx)) I.room]
  exact a.symm
theorem Ren.rats (I : Ren n c o p r) (hk : fitErr c = 0) : ratsC o = ratsC c := by
  rw [rats_more I.okO, rats_more I.okC, fit_all hk, fit_all (I.fit hk), I.tot, I.more I.union]
theorem Ren.start (I : Ren n c o p r) (hk : fitErr c = 0) {h : Nat} (hh : h < n) : startOf o (p h) = startOf c h := by
  have hp := I.pn h hh
  have hk' := I.fit hk
  refine Prod.ext ?_ ?_
  · rw [start_lo hk' (by rw [I.lenO]; exact hp), start_lo hk (by rw [I.lenC]; exact hh), I.tot,
      I.cut (r0 := nth (c.rooms.set h 0)) (fun x hx => nth_over (by simp; rw [I.lenC]; exact hx)) (fun x hx => nth_over (by simp; rw [I.lenO]; exact hx)) (fun x hx => by
        rw [set_any _ _ _ (by rw [I.lenO]; exact hp), set_any _ _ _ (by rw [I.lenC]; exact hh), I.room x hx]
        by_cases e : x = h
        · subst e; rw [if_pos rfl, if_pos rfl]
        · rw [if_neg e, if_neg (fun q => e (I.inj hx hh q))])]
  · show min (startOwn o (p h)) (nth o.rooms (p h)) = min (startOwn c h) (nth c.rooms h)
    have e : startOwn o (p h) = startOwn c h := by
      unfold startOwn
      rw [I.union.bit h hh, I.room h hh, own_sum, own_sum]
      have := I.needs (fun q => if (q.2.toNat).testBit h = true then q.1 else 0) (fun q => if (q.2.toNat).testBit (p h) = true then q.1 else 0) (fun q f g hm => by
        show (if ((g : Int).toNat).testBit (p h) = true then q else 0) = (if ((f : Int).toNat).testBit h = true then q else 0)
        rw [Int.toNat_natCast, Int.toNat_natCast, hm.bit h hh])
      have e2 : sumN (fun i => if (frm (needsC o) i).testBit (p h) = true then Go.Proofs.Ytnhifinfjfpoiaa.rats (needsC o) i else 0) (needsC o).length = sumN (fun i => if (frm (needsC c) i).testBit h = true then Go.Proofs.Ytnhifinfjfpoiaa.rats (needsC c) i else 0) (needsC c).length := this
      rw [e2]
    rw [e, I.room h hh]
theorem Ren.need (I : Ren n c o p r) (hk : fitErr c = 0) {h : Nat} (hh : h < n) : nth (needC o) (p h) = nth (needC c) h := by
  rw [need_nth (I.fit hk) (by rw [I.lenO]; exact I.pn h hh), need_nth hk (by rw [I.lenC]; exact hh), I.tot, I.more (I.needF hh)]
theorem Ren.after (I : Ren n c o p r) (hk : fitErr c = 0) {h : Nat} (hh : h < n) : nth (afterC o) (p h) = nth (afterC c) h := by
  rw [after_more (I.fit hk) (by rw [I.lenO]; exact I.pn h hh), after_more hk (by rw [I.lenC]; exact hh), I.tot, I.more (I.left hh)]
end
theorem reachAcc_bit (c : Col) (j : Nat) : ∀ (l : List Nat) (a : Nat), (reachAcc c a l).testBit j = (a.testBit j || l.any fun o => (nearC c o).testBit j)
  | [], a => by simp [reachAcc]
  | x :: l, a => by
    show (reachAcc c (orN a (nearC c x)) l).testBit j = _
    rw [reachAcc_bit c j l, orN_bit, List.any_cons, Bool.or_assoc]
section
variable {n : Nat} {c o : Col} {p r : Nat → Nat}
theorem Ren.reach (I : Ren n c o p r) {h : Nat} (hh : h < n) : ∀ R, MaskR n p (reachN c h R) (reachN o (p h) R)
  | 0 => by
    have hp := I.pn h hh
    refine ⟨fun x hx => ?_, fun x hx => ?_, fun x hx => ?_⟩
    · show (pw (p h)).testBit (p x) = (pw h).testBit x
      rw [pw_bit, pw_bit, Bool.eq_iff_iff, beq_iff_eq, beq_iff_eq]
      exact ⟨fun e => I.inj hh hx e, fun e => by rw [e]⟩
    · have : (pw h).testBit x = true := hx
      rw [pw_bit, beq_iff_eq] at this
      omega
    · have : (pw (p h)).testBit x = true := hx
      rw [pw_bit, beq_iff_eq] at this
      omega
  | R + 1 => by
    have n6 := I.n6
    have ih := I.reach hh R
    refine ⟨fun x hx => ?_, fun x hx => ?_, fun x hx => ?_⟩
    · show (reachAcc o (reachN o (p h) R) (members (reachN o (p h) R))).testBit (p x) = (reachAcc c (reachN c h R) (members (reachN c h R))).testBit x
      rw [reachAcc_bit, reachAcc_bit, ih.bit x hx]
      congr 1
      rw [Bool.eq_iff_iff, List.any_eq_true, List.any_eq_true]
      constructor
      · rintro ⟨a, h1, e⟩
        have ha := ih.inG a (mem_members.1 h1).2
        refine ⟨r a, mem_members.2 ⟨by have := I.rn a ha; omega, ?_⟩, ?_⟩
        · rw [← ih.bit (r a) (I.rn a ha), I.pr a ha]; exact (mem_members.1 h1).2
        · rw [← (I.near (I.rn a ha)).bit x hx, I.pr a ha]; exact e
      · rintro ⟨a, h1, e⟩
        have ha := ih.inF a (mem_members.1 h1).2
        refine ⟨p a, mem_members.2 ⟨by have := I.pn a ha; omega, ?_⟩, ?_⟩
        · rw [ih.bit a ha]; exact (mem_members.1 h1).2
        · rw [(I.near ha).bit x hx]; exact e
    · have h1 : (reachAcc c (reachN c h R) (members (reachN c h R))).testBit x = true := hx
      rw [reachAcc_bit, Bool.or_eq_true, List.any_eq_true] at h1
      rcases h1 with h1 | ⟨a, h1, e⟩
      · exact ih.inF x h1
      · exact (I.near (ih.inF a (mem_members.1 h1).2)).inF x e
    · have h1 : (reachAcc o (reachN o (p h) R) (members (reachN o (p h) R))).testBit x = true := hx
      rw [reachAcc_bit, Bool.or_eq_true, List.any_eq_true] at h1
      rcases h1 with h1 | ⟨a, h1, e⟩
      · exact ih.inG x h1
      · have ha := ih.inG a (mem_members.1 h1).2
        have hm := I.near (I.rn a ha)
        rw [I.pr a ha] at hm
        exact hm.inG x e
/-- How many houses a set has. -/
theorem card_sum (f : Nat) : ((members f).length : Int) = sumN (fun x => if f.testBit x = true then 1 else 0) 6 := by
  have key : ∀ k, ((upto f k).length : Int) = sumN (fun x => if f.testBit x = true then 1 else 0) k := by
    intro k
    induction k with
    | zero => rfl
    | succ k ih =>
      rw [sumN_succ, ← ih]
      cases hb : f.testBit k
      · rw [upto_no hb]; simp
      · rw [upto_yes hb]; simp
  exact key 6
theorem Ren.card (I : Ren n c o p r) {f g : Nat} (h : MaskR n p f g) : (members g).length = (members f).length := by
  have e : ((members g).length : Int) = (members f).length := by
    rw [card_sum, card_sum, sumN_cut I.n6 (fun i h1 _ => if_neg (fun hb => by have := h.inG i hb; omega)), sumN_cut I.n6 (fun i h1 _ => if_neg (fun hb => by have := h.inF i hb; omega)), ← I.sum (fun y => if g.testBit y = true then 1 else 0)]
    exact sumN_congr fun x hx => by rw [h.bit x hx]
  omega
end
end Go.Proofs.Ytnhifinfjfpoiaa

namespace Go.Proofs.Ytnhifinfjfpoiaa
open Go.RowKit
set_option linter.unusedVariables false
attribute [local go_sem] Oper.semAt_some

/-- More houses, or as many, and earlier ones. -/
def manyB (a b : List Int) : Bool := decide (b.length < a.length) || (decide (a.length = b.length) && decide (cmpL a b < 0))
theorem many_any (a b : List Int) (va vb : Value) (w : World) (ha : IsInts w w.heap.size va a) (hb : IsInts w w.heap.size vb b) :
    Calls Try.prog 126 #[va, vb] w fun e w' => e = .returned (.bool (manyB a b)) ∧ w = w' := by
  have HC := Lib.hid (compare_any a b va vb w ha hb)
  obtain ⟨aa, ca, rfl, a1, a2, a3⟩ := ha.open
  obtain ⟨ab, cb, rfl, b1, b2, b3⟩ := hb.open
  have hf : manyB a b = (decide (b.length < a.length) || (decide (a.length = b.length) && decide (cmpL a b < 0))) := rfl
  clear ha hb a3 b3
  by_cases h1 : b.length < a.length
  · have e1 : (b.length : Int) < a.length := by omega
    rw [show manyB a b = true by rw [hf]; simp [h1]]
    clear hf
    go_enter Try.func126, Try.ntmps126
    go_wp2_with fail
    all_goals (first | (refine ⟨fun _ h => (by cases h), ?_⟩; go_wp2_with fail) | skip)
    go_ret
    exact ⟨rfl, rfl⟩
  · have e1 : ¬ (b.length : Int) < a.length := by omega
    by_cases h2 : a.length = b.length
    · rw [show manyB a b = decide (cmpL a b < 0) by rw [hf]; simp [h2]]
      rw [← h2] at HC e1 ⊢
      clear hf h1 h2 b1 b2
      go_enter Try.func126, Try.ntmps126
      go_wp2_with (go_at_call 122; refine HC.out.mono ?_; rintro e w5 ⟨rfl, rfl⟩)
      go_ret
      exact ⟨rfl, rfl⟩
    · have e2 : ¬ (a.length : Int) = b.length := by omega
      rw [show manyB a b = false by rw [hf]; simp [h1, h2]]
      clear hf
      go_enter Try.func126, Try.ntmps126
      go_wp2_with fail
      all_goals (first | (refine ⟨fun _ h => (by cases h), ?_⟩; go_wp2_with fail) | skip)
      go_ret
      exact ⟨rfl, rfl⟩
/-- Of two sets no more than one house in common. -/
def oneB (s t : Nat) : Bool := (s &&& t) &&& ((s &&& t) - 1) == 0
def apartB (c : Col) (R s : Nat) : Bool := allB (fun h => oneB s (reachN c h R)) c.rooms.length
theorem bits_low_fin : ∀ a : Fin 64, bits BinOp.and IntKind.i64 (a.val : Int) ((a.val : Int) - 1) = ((a.val &&& (a.val - 1) : Nat) : Int) := by decide +kernel
theorem bits_low {a : Nat} (ha : a < 64) : bits BinOp.and IntKind.i64 (a : Int) ((a : Int) - 1) = ((a &&& (a - 1) : Nat) : Int) := bits_low_fin ⟨a, ha⟩
theorem and_lt {a b : Nat} (ha : a < 64) : a &&& b < 64 := Nat.lt_of_le_of_lt Nat.and_le_left ha

set_option maxRecDepth 100000 in
set_option maxHeartbeats 2000000 in
theorem apart_any (c : Col) (p R s bc bd br : Nat) (r : Value) (w : World) (hd : Desk w p c) (hR : R ≤ 3) (hs : s < 64) (hc6 : c.rooms.length ≤ 6) (hr : IsInts w w.heap.size r c.rooms) (x0 : w.cell? ⟨bc, 0, none⟩ = some r) (x1 : Boxed w bd 118 (.pointer (some ⟨p, 0, none⟩))) (x2 : Boxed w br 3 (.int .i64 R)) :
    Calls Try.prog 127 #[.int .i64 s, .pointer (some ⟨bc, 0, none⟩), .pointer (some ⟨bd, 0, none⟩), .pointer (some ⟨br, 0, none⟩)] w fun e w' => e = .returned (.bool (apartB c R s)) ∧ Below w.heap.size w w' := by
  obtain ⟨ar, cr, rfl, _, _, _⟩ := hr.open
  have HD := Lib.hid hd
  have HX := Lib.hid (And.intro (block_lt_of_cell x0) (And.intro (Boxed.cell x1) (And.intro (Array.getElem?_eq_some_iff.1 x1).1 (And.intro (Boxed.cell x2) (Array.getElem?_eq_some_iff.1 x2).1))))
  have H0 := Lib.hid x0
  clear hd x1 x2 hr
  go_enter Try.func127, Try.ntmps127
  go_wp2_with fail
  clear x0
  go_loopw [11] (fun i wr => ∃ k : Nat, k ≤ c.rooms.length ∧ i = .int .i64 k ∧ Hid ((∀ h, h < k → oneB s (reachN c h R) = true) ∧ Below w.heap.size w wr)) (fun i _ => c.rooms.length - (intOf i).toNat)
  case atStart => exact ⟨0, Nat.zero_le _, rfl, fun h hh => by omega, Below.refl _ _⟩
  case round =>
    obtain ⟨k, hk, rfl, HQ⟩ := hrel
    by_cases hlt : k < c.rooms.length
    · have hki : (k : Int) < c.rooms.length := by omega
      have hk6 : k < 6 := by omega
      have c1 := (HQ.out.2.cell (p := ⟨bd, 0, none⟩) HX.out.2.2.1).trans HX.out.2.1
      have c2 := (HQ.out.2.cell (p := ⟨br, 0, none⟩) HX.out.2.2.2.2).trans HX.out.2.2.2.1
      have HDW := Lib.hid (HD.out.below HQ.out.2.drew)
      have hrl := reachN_lt c k hk6 R
      have hb1 := bits_and hs hrl
      obtain ⟨m, hm⟩ : ∃ m, s &&& reachN c k R = m := ⟨_, rfl⟩
      have hm6 : m < 64 := by rw [← hm]; exact and_lt hs
      have hone : oneB s (reachN c k R) = (m &&& (m - 1) == 0) := by unfold oneB; rw [hm]
      rw [hm] at hb1
      have hb2 := bits_low hm6
      have HONE := Lib.hid hone
      have hws : IntKind.i64.wrap ((m : Int) - 1) = (m : Int) - 1 := by rw [IntKind.wrap_i64]; omega
      clear hm hone hrl
      have hdw := HD.out.below HQ.out.2
      cases ho : (m &&& (m - 1) == 0)
      · have hz : (m &&& (m - 1)) ≠ 0 := by intro e; rw [e] at ho; cases ho
        have hz' : ¬ ((m &&& (m - 1) : Nat) : Int) = 0 := fun e => hz (Int.natCast_eq_zero.1 e)
        have e : apartB c R s = false := by
          unfold apartB
          rw [Bool.eq_false_iff]
          intro h
          rw [allB_iff] at h
          have := h k hlt
          rw [HONE.out, ho] at this
          cases this
        have HE := Lib.hid e
        clear e ho hz
        go_wp2_with fail
        refine (reaches_any c p k R _ hdw hk6 hR).mono ?_
        rintro e w2 ⟨rfl, hb3⟩
        have HZ := Lib.hid (HQ.out.2.trans (hb3.mono HQ.out.2.size))
        clear hb3 HQ hdw
        go_wp2_with fail
        go_ret
        exact ⟨ret_bool HE.out.symm, HZ.out⟩
      · have hz : (m &&& (m - 1)) = 0 := by simpa using ho
        rw [hz] at hb2
        rw [ho] at HONE
        clear ho hz
        go_wp2_with fail
        refine (reaches_any c p k R _ hdw hk6 hR).mono ?_
        rintro e w2 ⟨rfl, hb3⟩
        have HZ := Lib.hid (HQ.out.2.trans (hb3.mono HQ.out.2.size))
        clear hb3 hdw
        go_wp2_with fail
        go_roundw
        case rel =>
          refine ⟨k + 1, by omega, by go_num, fun h hh => ?_, HZ.out⟩
          by_cases e : h = k
          · rw [e]; exact HONE.out
          · exact HQ.out.1 h (by omega)
        case measure => simp [intOf]; omega
    · obtain rfl : k = c.rooms.length := by omega
      have e : apartB c R s = true := by unfold apartB; rw [allB_iff]; exact HQ.out.1
      have HE := Lib.hid e
      have HZ := Lib.hid HQ.out.2
      clear e HQ
      go_wp2_with fail
      go_ret
      exact ⟨ret_bool HE.out.symm, HZ.out⟩
end Go.Proofs.Ytnhifinfjfpoiaa

namespace Go.Proofs.Ytnhifinfjfpoiaa
open Go.RowKit
set_option linter.unusedVariables false
attribute [local go_sem] Oper.semAt_some

def apartC (c : Col) (R : Nat) : List Int := bestF manyB (posC c) (apartB c R)

set_option maxRecDepth 100000 in
set_option maxHeartbeats 2000000 in
theorem Apart_ok (c : Col) (r t u n : Value) (R : Int) (w : World) (hc : ColAt w w.heap.size r t u n c) (hk : baitErr c R = 0) :
    Calls Try.prog 55 #[.agg #[r, t, u, n], .int .i64 R] w fun e w' => ∃ v, e = .returned (.tuple #[v, .int .i64 0]) ∧ IsInts w' w'.heap.size v (apartC c R.toNat) ∧ Below w.heap.size w w' := by
  obtain ⟨k0, k1, k2⟩ := bait_in hk
  have a := inB_true k1
  obtain ⟨M, rfl⟩ : ∃ M : Nat, R = M := ⟨R.toNat, by omega⟩
  have hM : M ≤ 3 := by omega
  have o2 := (okCol_of k0).houses.2
  have hBW : Below w.heap.size w ((w.alloc (.cells #[r, t, u, n] 26)).alloc (.cells #[.int .i64 M] 3)) := ((Below.refl w.heap.size w).alloc (Nat.le_refl _) _).alloc (by simp) _
  have hcA := (hc.below hBW (Nat.le_refl _)).mono (B' := ((w.alloc (.cells #[r, t, u, n] 26)).alloc (.cells #[.int .i64 M] 3)).heap.size) (by simp; omega)
  have HBT := Lib.hid (baited_ok c r t u n M _ hcA hk)
  have hx1 : Boxed ((w.alloc (.cells #[r, t, u, n] 26)).alloc (.cells #[.int .i64 M] 3)) (w.heap.size + 1) 3 (.int .i64 M) := by
    have := Boxed.new (w.alloc (.cells #[r, t, u, n] 26)) 3 (.int .i64 M)
    rw [World.size_alloc] at this
    exact this
  have hx0 : ((w.alloc (.cells #[r, t, u, n] 26)).alloc (.cells #[.int .i64 M] 3)).cell? ⟨w.heap.size, 0, none⟩ = some r := by simp [go_sem]
  have HRI := Lib.hid hcA.1
  obtain ⟨hr, htr, hu, hn⟩ := hc
  obtain ⟨ar, cr, rfl, _⟩ := hr.open
  obtain ⟨at_, ct, rfl, _⟩ := htr.open
  obtain ⟨au, cu, rfl, _⟩ := hu.open
  obtain ⟨an, cn, rfl, _⟩ := hn.open
  have HB := Lib.hid hBW; have HX := Lib.hid (And.intro hx0 hx1)
  clear hr htr hu hn hBW hcA hk k0 k1 k2 hx0 hx1 a
  go_enter Try.func55, Try.ntmps55
  go_wp2_with fail
  refine HBT.out.mono ?_
  rintro e w3 ⟨p, rfl, hd, hb3⟩
  have c0 := (hb3.cell (p := ⟨w.heap.size, 0, none⟩) (by simp; omega)).trans HX.out.1
  have x1 := (hb3.block _ (by simp)).trans HX.out.2
  have HD := Lib.hid (And.intro hb3 (And.intro hd x1))
  clear hb3 hd x1
  go_wp2_with fail
  have hw6 : ∀ W6, ((w3.alloc (.cells #[.pointer (some ⟨p, 0, none⟩)] 118)).alloc (.cells #[.func (.func 126) #[] #[]] 170)) = W6 →
      W6.cell? ⟨w3.heap.size + 1, 0, none⟩ = some (.func (.func 126) #[] #[]) ∧ Boxed W6 w3.heap.size 118 (.pointer (some ⟨p, 0, none⟩)) ∧ Below w3.heap.size w3 W6 := by
    rintro _ rfl
    exact ⟨by simp [go_sem], (Boxed.new w3 _ _).alloc _, ((Below.refl _ w3).alloc (Nat.le_refl _) _).alloc (by simp) _⟩
  obtain ⟨W6, hW6⟩ : ∃ W6, ((w3.alloc (.cells #[.pointer (some ⟨p, 0, none⟩)] 118)).alloc (.cells #[.func (.func 126) #[] #[]] 170)) = W6 := ⟨_, rfl⟩
  obtain ⟨d1, d2, d4⟩ := hw6 _ hW6
  have hb3 := HD.out.1
  have hsz3 := hb3.size
  have d0 := (d4.cell (p := ⟨w.heap.size, 0, none⟩) (Nat.lt_of_lt_of_le (by simp; omega) hsz3)).trans c0
  have d5 := (d4.block (w.heap.size + 1) (Nat.lt_of_lt_of_le (by simp) hsz3)).trans HD.out.2.2
  have hd6 := HD.out.2.1.below d4
  have hs6 := d4.size
  have hri := ((HRI.out.below (hb3.trans (d4.mono hsz3)) (Nat.le_refl _)).mono (Nat.le_trans hsz3 hs6))
  rw [hW6]
  have HW := Lib.hid (And.intro d2 (And.intro d0 (And.intro d4 (And.intro d5 (And.intro hd6 hri)))))
  clear hW6 hw6 d2 d4 d5 hd6 hb3 hsz3 c0 hs6 hri d0
  have HC := Lib.hid (best_any manyB 126 Try.call126 many_any (posC c) (posTo_lt _ _ o2) 127 #[.pointer (some ⟨w.heap.size, 0, none⟩), .pointer (some ⟨w3.heap.size, 0, none⟩), .pointer (some ⟨w.heap.size + 1, 0, none⟩)] (apartB c M) Try.call127 W6 (fun s hs w' hb => by
    obtain ⟨e2, e0, e4, e5, e6, e7⟩ := HW.out
    exact apart_any c p M s w.heap.size w3.heap.size (w.heap.size + 1) _ w' (e6.below hb) hM hs o2 ((e7.below hb (Nat.le_refl _)).mono hb.size) ((hb.cell (p := ⟨w.heap.size, 0, none⟩) (block_lt_of_cell e0)).trans e0) ((hb.block _ (Array.getElem?_eq_some_iff.1 e2).1).trans e2) ((hb.block _ (Array.getElem?_eq_some_iff.1 e5).1).trans e5)))
  go_wp2_with (go_at_call 123; refine HC.out.mono ?_; rintro e w7 ⟨v, rfl, hv, hb7⟩; have H7 := Lib.hid (And.intro hv hb7); clear hv hb7)
  go_ret2
  have h1 := HB.out.trans (HD.out.1.mono (by simp; omega))
  have h2 := h1.trans (HW.out.2.2.1.mono h1.size)
  exact ⟨v, rfl, H7.out.1, h2.trans (H7.out.2.mono h2.size)⟩

set_option maxRecDepth 100000 in
theorem Apart_bad (c : Col) (r t u n : Value) (R : Int) (w : World) (hc : ColAt w w.heap.size r t u n c) (hk : ¬ baitErr c R = 0) :
    Calls Try.prog 55 #[.agg #[r, t, u, n], .int .i64 R] w fun e w' => e = .returned (.tuple #[.slice none 0 0, .int .i64 (baitErr c R)]) ∧ Below w.heap.size w w' := by
  have hBW : Below w.heap.size w ((w.alloc (.cells #[r, t, u, n] 26)).alloc (.cells #[.int .i64 R] 3)) := ((Below.refl w.heap.size w).alloc (Nat.le_refl _) _).alloc (by simp) _
  have hcA := (hc.below hBW (Nat.le_refl _)).mono (B' := ((w.alloc (.cells #[r, t, u, n] 26)).alloc (.cells #[.int .i64 R] 3)).heap.size) (by simp; omega)
  have HBT := Lib.hid (baited_bad c r t u n R _ hcA hk)
  obtain ⟨hr, htr, hu, hn⟩ := hc
  obtain ⟨ar, cr, rfl, _⟩ := hr.open
  obtain ⟨at_, ct, rfl, _⟩ := htr.open
  obtain ⟨au, cu, rfl, _⟩ := hu.open
  obtain ⟨an, cn, rfl, _⟩ := hn.open
  have HB := Lib.hid hBW
  have hk1 : (baitErr c R == 0) = false := by simpa using hk
  have hk2 : (baitErr c R != 0) = true := by simp [bne, hk1]
  clear hr htr hu hn hBW hcA hk
  go_enter Try.func55, Try.ntmps55
  go_wp2_with fail
  refine HBT.out.mono ?_
  rintro e w3 ⟨q, rfl, hb3⟩
  have HD := Lib.hid hb3
  clear hb3
  go_wp2_with fail
  go_ret2
  have h1 := HB.out.trans (HD.out.mono (by simp; omega))
  exact ⟨rfl, h1.alloc h1.size _⟩
end Go.Proofs.Ytnhifinfjfpoiaa

namespace Go.Proofs.Ytnhifinfjfpoiaa
open Go.RowKit
set_option linter.unusedVariables false
set_option linter.unusedSimpArgs false

/-- A set of which it is so. -/
def validB (all : Nat) (q : Nat → Bool) (s : Nat) : Bool := subsetN s all && q s
/-- Of all such sets the one that is told is the best. -/
structure BestIs (κ : List Int → Int) (all : Nat) (q : Nat → Bool) (k : Nat) (st : Bool × List Int) : Prop where
  none : st.1 = false → st.2 = [] ∧ ∀ s, s < k → validB all q s = false
  some : st.1 = true → ∃ s, s < k ∧ validB all q s = true ∧ st.2 = natsI (members s) ∧ ∀ s', s' < k → validB all q s' = true → κ (natsI (members s)) ≤ κ (natsI (members s'))
theorem best_is {better : List Int → List Int → Bool} {κ : List Int → Int} (h1 : ∀ a b, better a b = true → κ a ≤ κ b) (h2 : ∀ a b, better a b = false → κ b ≤ κ a) (all : Nat) (q : Nat → Bool) : ∀ k, BestIs κ all q k (bestTo better all q k)
  | 0 => ⟨fun _ => ⟨rfl, fun s hs => by omega⟩, fun h => by cases h⟩
  | k + 1 => by
    have ih := best_is h1 h2 all q k
    rw [bestTo_succ]
    obtain ⟨st, hst⟩ : ∃ st, bestTo better all q k = st := ⟨_, rfl⟩
    rw [hst] at ih ⊢
    have hv : validB all q k = (subsetN k all && q k) := rfl
    unfold bestStep
    rw [← hv]
    cases v : validB all q k
    · simp only [Bool.false_eq_true, if_false]
      refine ⟨fun e => ⟨(ih.none e).1, fun s hs => ?_⟩, fun e => ?_⟩
      · by_cases c : s = k
        · rw [c]; exact v
        · exact (ih.none e).2 s (by omega)
      · obtain ⟨s, a, b, c, d⟩ := ih.some e
        refine ⟨s, by omega, b, c, fun s' hs' hv' => ?_⟩
        by_cases c' : s' = k
        · rw [c', v] at hv'; cases hv'
        · exact d s' (by omega) hv'
    · simp only [if_true]
      cases f : st.1
      · simp only [Bool.not_false, Bool.true_or, if_true]
        refine ⟨fun e => (by cases e), fun _ => ⟨k, by omega, v, rfl, fun s' hs' hv' => ?_⟩⟩
        by_cases c' : s' = k
        · rw [c']; exact Int.le_refl _
        · have := (ih.none f).2 s' (by omega)
          rw [this] at hv'; cases hv'
      · obtain ⟨s, a, b, c, d⟩ := ih.some f
        simp only [Bool.not_true, Bool.false_or]
        cases g : better (natsI (members k)) st.2
        · simp only [Bool.false_eq_true, if_false]
          have g2 := h2 _ _ g
          refine ⟨fun e => (by rw [f] at e; cases e), fun _ => ⟨s, by omega, b, c, fun s' hs' hv' => ?_⟩⟩
          by_cases c' : s' = k
          · rw [c', ← c]; exact g2
          · exact d s' (by omega) hv'
        · simp only [if_true]
          have g1 := h1 _ _ g
          refine ⟨fun e => (by cases e), fun _ => ⟨k, by omega, v, rfl, fun s' hs' hv' => ?_⟩⟩
          by_cases c' : s' = k
          · rw [c']; exact Int.le_refl _
          · rw [c] at g1
            exact Int.le_trans g1 (d s' (by omega) hv')
theorem few_best (all : Nat) (q : Nat → Bool) (h : ∃ s, s < 64 ∧ validB all q s = true) :
    ∃ s, s < 64 ∧ validB all q s = true ∧ bestF fewB all q = natsI (members s) ∧ ∀ s', s' < 64 → validB all q s' = true → (members s).length ≤ (members s').length := by
  have b := best_is (better := fewB) (κ := fun l => (l.length : Int)) (fun a b h => by
    unfold fewB at h
    simp at h
    show (a.length : Int) ≤ b.length
    omega) (fun a b h => by
    unfold fewB at h
    simp at h
    show (b.length : Int) ≤ a.length
    omega) all q 64
  obtain ⟨s0, h0, h1⟩ := h
  cases f : (bestTo fewB all q 64).1
  · have := (b.none f).2 s0 h0
    rw [this] at h1; cases h1
  · obtain ⟨s, a, v, e, d⟩ := b.some f
    refine ⟨s, a, v, e, fun s' hs' hv' => ?_⟩
    have := d s' hs' hv'
    rw [natsI_len, natsI_len] at this
    omega
theorem many_best (all : Nat) (q : Nat → Bool) (h : ∃ s, s < 64 ∧ validB all q s = true) :
    ∃ s, s < 64 ∧ validB all q s = true ∧ bestF manyB all q = natsI (members s) ∧ ∀ s', s' < 64 → validB all q s' = true → (members s').length ≤ (members s).length := by
  have b := best_is (better := manyB) (κ := fun l => -(l.length : Int)) (fun a b h => by
    unfold manyB at h
    simp at h
    show -(a.length : Int) ≤ -(b.length : Int)
    omega) (fun a b h => by
    unfold manyB at h
    simp at h
    show -(b.length : Int) ≤ -(a.length : Int)
    omega) all q 64
  obtain ⟨s0, h0, h1⟩ := h
  cases f : (bestTo manyB all q 64).1
  · have := (b.none f).2 s0 h0
    rw [this] at h1; cases h1
  · obtain ⟨s, a, v, e, d⟩ := b.some f
    refine ⟨s, a, v, e, fun s' hs' hv' => ?_⟩
    have := d s' hs' hv'
    rw [natsI_len, natsI_len] at this
    omega
theorem subset_bits_fin : ∀ a b : Fin 64, subsetN a.val b.val = true ↔ ∀ x, x < 6 → a.val.testBit x = true → b.val.testBit x = true := by decide +kernel
theorem subset_bits {a b : Nat} (ha : a < 64) (hb : b < 64) : subsetN a b = true ↔ ∀ x, a.testBit x = true → b.testBit x = true :=
  (subset_bits_fin ⟨a, ha⟩ ⟨b, hb⟩).trans ⟨fun h x hx => h x (bit6 ha hx) hx, fun h x _ hx => h x hx⟩
theorem one_bits_fin : ∀ m : Fin 64, (m.val &&& (m.val - 1) == 0) = true ↔ ∀ x, x < 6 → ∀ y, y < 6 → m.val.testBit x = true → m.val.testBit y = true → x = y := by decide +kernel
theorem one_bits {s t : Nat} (hs : s < 64) : oneB s t = true ↔ ∀ x y, s.testBit x = true → t.testBit x = true → s.testBit y = true → t.testBit y = true → x = y := by
  have hm : s &&& t < 64 := and_lt hs
  refine (one_bits_fin ⟨s &&& t, hm⟩).trans ⟨fun h x y a b c d => ?_, fun h x _ y _ a b => ?_⟩
  · exact h x (bit6 hs a) y (bit6 hs c) (by show (s &&& t).testBit x = true; rw [Nat.testBit_and, a, b]; rfl) (by show (s &&& t).testBit y = true; rw [Nat.testBit_and, c, d]; rfl)
  · have a' : (s &&& t).testBit x = true := a
    have b' : (s &&& t).testBit y = true := b
    rw [Nat.testBit_and, Bool.and_eq_true] at a' b'
    exact h x y a'.1 a'.2 b'.1 b'.2
theorem posTo_bit (l : List Int) (x : Nat) : ∀ k, (posTo l k).testBit x = true ↔ x < k ∧ 0 < nth l x
  | 0 => by simp [posTo]
  | k + 1 => by
    unfold posTo
    by_cases e : 0 < nth l k
    · rw [if_pos e, orN_bit, Bool.or_eq_true, posTo_bit l x k, pw_bit, beq_iff_eq]
      constructor
      · rintro (h | h)
        · exact ⟨by omega, h.2⟩
        · subst h; exact ⟨by omega, e⟩
      · rintro ⟨h1, h2⟩
        by_cases c : k = x
        · exact .inr c
        · exact .inl ⟨by omega, h2⟩
    · rw [if_neg e, posTo_bit l x k]
      constructor
      · rintro ⟨h1, h2⟩; exact ⟨by omega, h2⟩
      · rintro ⟨h1, h2⟩
        refine ⟨?_, h2⟩
        by_cases c : x = k
        · rw [c] at h2; exact absurd h2 e
        · omega
theorem coverAcc_bit (c : Col) (R x : Nat) (l : List Nat) : (coverAcc c R l).testBit x = true ↔ ∃ o, o ∈ l ∧ (reachN c o R).testBit x = true := by
  have key : ∀ (l : List Nat) (a : Nat), (l.foldl (fun acc h => orN acc (reachN c h R)) a).testBit x = true ↔ a.testBit x = true ∨ ∃ o, o ∈ l ∧ (reachN c o R).testBit x = true := by
    intro l
    induction l with
    | nil => intro a; simp
    | cons y l ih =>
      intro a
      rw [List.foldl_cons, ih, orN_bit, Bool.or_eq_true]
      constructor
      · rintro ((h | h) | ⟨o, h1, h2⟩)
        · exact .inl h
        · exact .inr ⟨y, by simp, h⟩
        · exact .inr ⟨o, by simp [h1], h2⟩
      · rintro (h | ⟨o, h1, h2⟩)
        · exact .inl (.inl h)
        · rcases List.mem_cons.1 h1 with rfl | h1
          · exact .inl (.inr h2)
          · exact .inr ⟨o, h1, h2⟩
  unfold coverAcc
  rw [key]; simp
theorem all_bits_fin : ∀ n : Fin 7, ∀ x, x < 6 → ((allN n.val).testBit x = true ↔ x < n.val) := by decide +kernel
theorem all_bits {n : Nat} (h : n ≤ 6) (x : Nat) : (allN n).testBit x = true ↔ x < n := by
  constructor
  · intro hx
    exact (all_bits_fin ⟨n, by omega⟩ x (bit6 (allN_lt h) hx)).1 hx
  · intro hx
    exact (all_bits_fin ⟨n, by omega⟩ x (by omega)).2 hx
/-- Baits that reach all houses in which a rat can be. -/
theorem cover_iff {c : Col} (ok : OkCol c) {R s : Nat} (hs : s < 64) : validB (allN c.rooms.length) (coverB c R (posC c)) s = true ↔
    (∀ x, s.testBit x = true → x < c.rooms.length) ∧ ∀ x, x < c.rooms.length → 0 < nth (afterC c) x → ∃ b, s.testBit b = true ∧ (reachN c b R).testBit x = true := by
  have o2 := ok.houses.2
  unfold validB coverB
  rw [Bool.and_eq_true, subset_bits hs (allN_lt o2), subset_bits (show posC c < 64 from posTo_lt _ _ o2) (coverAcc_lt c R _ (fun h hh => (mem_members.1 hh).1))]
  constructor
  · rintro ⟨h1, h2⟩
    refine ⟨fun x hx => (all_bits o2 x).1 (h1 x hx), fun x hx hp => ?_⟩
    have := h2 x ((posTo_bit _ x _).2 ⟨hx, hp⟩)
    rw [coverAcc_bit] at this
    obtain ⟨b, e1, e2⟩ := this
    exact ⟨b, (mem_members.1 e1).2, e2⟩
  · rintro ⟨h1, h2⟩
    refine ⟨fun x hx => (all_bits o2 x).2 (h1 x hx), fun x hx => ?_⟩
    obtain ⟨a, b⟩ := (posTo_bit _ x _).1 hx
    obtain ⟨o, e1, e2⟩ := h2 x a b
    rw [coverAcc_bit]
    exact ⟨o, mem_members.2 ⟨bit6 hs e1, e1⟩, e2⟩
/-- Houses in which a rat can be, and which are apart. -/
theorem apart_iff {c : Col} (ok : OkCol c) {R s : Nat} (hs : s < 64) : validB (posC c) (apartB c R) s = true ↔
    (∀ x, s.testBit x = true → x < c.rooms.length ∧ 0 < nth (afterC c) x) ∧ ∀ h, h < c.rooms.length → ∀ x y, s.testBit x = true → (reachN c h R).testBit x = true → s.testBit y = true → (reachN c h R).testBit y = true → x = y := by
  have o2 := ok.houses.2
  unfold validB apartB
  rw [Bool.and_eq_true, subset_bits hs (show posC c < 64 from posTo_lt _ _ o2), allB_iff]
  constructor
  · rintro ⟨h1, h2⟩
    exact ⟨fun x hx => (posTo_bit _ x _).1 (h1 x hx), fun h hh => (one_bits hs).1 (h2 h hh)⟩
  · rintro ⟨h1, h2⟩
    exact ⟨fun x hx => (posTo_bit _ x _).2 (h1 x hx), fun h hh => (one_bits hs).2 (h2 h hh)⟩
/-- A house reaches itself. -/
theorem reach_self (c : Col) (h : Nat) : ∀ R, (reachN c h R).testBit h = true
  | 0 => by show (pw h).testBit h = true; rw [pw_bit]; simp
  | R + 1 => by
    show (reachAcc c (reachN c h R) (members (reachN c h R))).testBit h = true
    rw [reachAcc_bit, reach_self c h R]; rfl
theorem reach_more (c : Col) (h R x : Nat) (hx : (reachN c h R).testBit x = true) : (reachN c h (R + 1)).testBit x = true := by
  show (reachAcc c (reachN c h R) (members (reachN c h R))).testBit x = true
  rw [reachAcc_bit, hx]; rfl
theorem cover_ex {c : Col} (ok : OkCol c) (R : Nat) : ∃ s, s < 64 ∧ validB (allN c.rooms.length) (coverB c R (posC c)) s = true :=
  ⟨allN c.rooms.length, allN_lt ok.houses.2, (cover_iff ok (allN_lt ok.houses.2)).2 ⟨fun x hx => (all_bits ok.houses.2 x).1 hx, fun x hx _ => ⟨x, (all_bits ok.houses.2 x).2 hx, reach_self c x R⟩⟩⟩
theorem apart_ex {c : Col} (ok : OkCol c) (R : Nat) : ∃ s, s < 64 ∧ validB (posC c) (apartB c R) s = true :=
  ⟨0, by decide, (apart_iff ok (by decide)).2 ⟨fun x hx => by simp at hx, fun h _ x y hx => by simp at hx⟩⟩
/-- What is told of baits. -/
theorem baits_is {c : Col} (ok : OkCol c) (R : Nat) : ∃ s, s < 64 ∧ validB (allN c.rooms.length) (coverB c R (posC c)) s = true ∧ baitsC c R = natsI (members s) ∧ ∀ s', s' < 64 → validB (allN c.rooms.length) (coverB c R (posC c)) s' = true → (members s).length ≤ (members s').length :=
  few_best _ _ (cover_ex ok R)
theorem apart_is {c : Col} (ok : OkCol c) (R : Nat) : ∃ s, s < 64 ∧ validB (posC c) (apartB c R) s = true ∧ apartC c R = natsI (members s) ∧ ∀ s', s' < 64 → validB (posC c) (apartB c R) s' = true → (members s').length ≤ (members s).length :=
  many_best _ _ (apart_ex ok R)
section
variable {n : Nat} {c o : Col} {p r : Nat → Nat}
/-- A set by its new names. -/
def named (n : Nat) (r : Nat → Nat) (s : Nat) : Nat := maskOf fun y => decide (y < n) && s.testBit (r y)
theorem named_lt (n : Nat) (r : Nat → Nat) (s : Nat) : named n r s < 64 := maskOf_lt _
theorem Ren.named (I : Ren n c o p r) {s : Nat} (h : ∀ x, s.testBit x = true → x < n) : MaskR n p s (named n r s) := by
  have n6 := I.n6
  have hb : ∀ y, y < 6 → (Go.Proofs.Ytnhifinfjfpoiaa.named n r s).testBit y = (decide (y < n) && s.testBit (r y)) := fun y hy => maskOf_bit _ y hy
  refine ⟨fun x hx => ?_, h, fun x hx => ?_⟩
  · have := I.pn x hx
    rw [hb _ (by omega), I.rp x hx]
    simp [this]
  · have h6 := bit6 (named_lt n r s) hx
    rw [hb x h6, Bool.and_eq_true] at hx
    simpa using hx.1
theorem Ren.cover (I : Ren n c o p r) (hk : fitErr c = 0) {R s : Nat} (hs : s < 64) (h : validB (allN c.rooms.length) (coverB c R (posC c)) s = true) : validB (allN o.rooms.length) (coverB o R (posC o)) (Go.Proofs.Ytnhifinfjfpoiaa.named n r s) = true := by
  rw [cover_iff I.okC hs, I.lenC] at h
  rw [cover_iff I.okO (named_lt n r s), I.lenO]
  have m := I.named h.1
  refine ⟨m.inG, fun x hx hp => ?_⟩
  have hrx := I.rn x hx
  have e := I.after hk hrx
  rw [I.pr x hx] at e
  obtain ⟨b, h1, h2⟩ := h.2 (r x) hrx (by rw [← e]; exact hp)
  have hb := h.1 b h1
  refine ⟨p b, by rw [m.bit b hb]; exact h1, ?_⟩
  have := (I.reach hb R).bit (r x) hrx
  rw [I.pr x hx] at this
  rw [this]; exact h2
theorem Ren.apart (I : Ren n c o p r) (hk : fitErr c = 0) {R s : Nat} (hs : s < 64) (h : validB (posC c) (apartB c R) s = true) : validB (posC o) (apartB o R) (Go.Proofs.Ytnhifinfjfpoiaa.named n r s) = true := by
  rw [apart_iff I.okC hs, I.lenC] at h
  rw [apart_iff I.okO (named_lt n r s), I.lenO]
  have m := I.named (fun x hx => (h.1 x hx).1)
  refine ⟨fun x hx => ?_, fun a ha x y hx1 hx2 hy1 hy2 => ?_⟩
  · have hxn := m.inG x hx
    have hrx := I.rn x hxn
    have e := I.after hk hrx
    rw [I.pr x hxn] at e
    have b := m.bit (r x) hrx
    rw [I.pr x hxn] at b
    exact ⟨hxn, by rw [e]; exact (h.1 (r x) (by rw [← b]; exact hx)).2⟩
  · have hxn := m.inG x hx1
    have hyn := m.inG y hy1
    have hra := I.rn a ha
    have key : ∀ z, z < n → (Go.Proofs.Ytnhifinfjfpoiaa.named n r s).testBit z = true → (reachN o a R).testBit z = true → s.testBit (r z) = true ∧ (reachN c (r a) R).testBit (r z) = true := fun z hz h1 h2 => by
      have b := m.bit (r z) (I.rn z hz)
      rw [I.pr z hz] at b
      have d := (I.reach hra R).bit (r z) (I.rn z hz)
      rw [I.pr z hz, I.pr a ha] at d
      exact ⟨by rw [← b]; exact h1, by rw [← d]; exact h2⟩
    obtain ⟨a1, a2⟩ := key x hxn hx1 hx2
    obtain ⟨b1, b2⟩ := key y hyn hy1 hy2
    have := h.2 (r a) hra (r x) (r y) a1 a2 b1 b2
    rw [← I.pr x hxn, this, I.pr y hyn]
theorem Ren.baits_le (I : Ren n c o p r) (hk : fitErr c = 0) (R : Nat) : (baitsC o R).length ≤ (baitsC c R).length := by
  obtain ⟨s, h1, h2, h3, _⟩ := baits_is I.okC R
  obtain ⟨t, _, _, k3, k4⟩ := baits_is I.okO R
  rw [h3, k3, natsI_len, natsI_len, ← I.card (I.named (s := s) (fun x hx => by rw [← I.lenC]; exact ((cover_iff I.okC h1).1 h2).1 x hx))]
  exact k4 _ (named_lt n r s) (I.cover hk h1 h2)
theorem Ren.apart_le (I : Ren n c o p r) (hk : fitErr c = 0) (R : Nat) : (apartC c R).length ≤ (apartC o R).length := by
  obtain ⟨s, h1, h2, h3, _⟩ := apart_is I.okC R
  obtain ⟨t, _, _, k3, k4⟩ := apart_is I.okO R
  rw [h3, k3, natsI_len, natsI_len, ← I.card (I.named (s := s) (fun x hx => by rw [← I.lenC]; exact (((apart_iff I.okC h1).1 h2).1 x hx).1))]
  exact k4 _ (named_lt n r s) (I.apart hk h1 h2)
theorem Ren.baits (I : Ren n c o p r) (hk : fitErr c = 0) (R : Nat) : (baitsC o R).length = (baitsC c R).length := Nat.le_antisymm (I.baits_le hk R) (I.sym.baits_le (I.fit hk) R)
theorem Ren.aparts (I : Ren n c o p r) (hk : fitErr c = 0) (R : Nat) : (apartC o R).length = (apartC c R).length := Nat.le_antisymm (I.sym.apart_le (I.fit hk) R) (I.apart_le hk R)
theorem Ren.reach_len (I : Ren n c o p r) {h : Nat} (hh : h < n) (R : Nat) : (members (reachN o (p h) R)).length = (members (reachN c h R)).length := I.card (I.reach hh R)
end
end Go.Proofs.Ytnhifinfjfpoiaa

namespace Go.Proofs.Ytnhifinfjfpoiaa
open Go.RowKit
set_option linter.unusedVariables false
set_option linter.unusedSimpArgs false

theorem Sep.setRow {w : World} {B : Nat} {ps : List Part} (h : Sep w B ps) (hB : B ≤ w.heap.size) (i : Nat) {B' e sz n g cap : Nat} {xs : List Value} (hi : ps[i]? = some (pRow B' e sz n (.slice (some ⟨g, 0, none⟩) n cap) xs)) (o : Nat) (x : Value) : Sep (w.setCell ⟨g, o, none⟩ x) B (ps.set i (pRow B' e sz n (.slice (some ⟨g, 0, none⟩) n cap) (xs.set o x))) :=
  h.set i hi _ (by simp) hB (fun k _ hk => Below.heap_setCell _ _ _ _ (fun e => hk (congrArg some e.symm))) ((World.ownsRow.stored (h.at i hi) o x).1) (fun k hk => .inl hk)
theorem MW.setRow {p : Nat} {v : Value} {xs : List Int} {w W : World} {ps : List Part} (h : MW p v xs w W ps) (i : Nat) {e sz n g cap : Nat} {l : List Value} (hi : ps[i]? = some (pRow w.heap.size e sz n (.slice (some ⟨g, 0, none⟩) n cap) l)) (o : Nat) (x : Value) : MW p v xs w (W.setCell ⟨g, o, none⟩ x) (ps.set i (pRow w.heap.size e sz n (.slice (some ⟨g, 0, none⟩) n cap) (l.set o x))) :=
  h.hi ((Below.refl _ W).setCell (p := ⟨g, o, none⟩) ((h.sep.lt i _ hi g rfl).1) _) (h.sep.setRow h.size i hi o x)
theorem intsL_set (l : List Int) (i : Nat) (x : Int) : (intsV l).set i (.int .i64 x) = intsV (l.set i x) := by simp [intsV, List.map_set]
theorem nth_set {l : List Int} {i j : Nat} (x : Int) (hi : i < l.length) : nth (l.set i x) j = if j = i then x else nth l j := by
  unfold nth
  rw [List.getD_eq_getElem?_getD, List.getD_eq_getElem?_getD, List.getElem?_set]
  by_cases e : j = i
  · subst e; simp [hi]
  · rw [if_neg (fun q => e q.symm), if_neg e]

/-- The numbers below n in some order. -/
structure PermL (n : Nat) (l : List Int) : Prop where
  len : l.length = n
  lt : ∀ i, i < n → 0 ≤ nth l i ∧ nth l i < n
  inj : ∀ i j, i < n → j < n → nth l i = nth l j → i = j
  onto : ∀ x : Nat, x < n → ∃ i, i < n ∧ nth l i = (x : Int)
theorem PermL.nil : PermL 0 [] := ⟨rfl, fun i h => by omega, fun i j h => by omega, fun x h => by omega⟩
theorem PermL.snoc {n : Nat} {l : List Int} (I : PermL n l) : PermL (n + 1) (l ++ [(n : Int)]) := by
  have e1 : ∀ i, i < n → nth (l ++ [(n : Int)]) i = nth l i := fun i hi => nth_ahead (by rw [I.len]; exact hi)
  have e2 : nth (l ++ [(n : Int)]) n = n := by have := nth_new l (n : Int); rwa [I.len] at this
  refine ⟨by simp [I.len], fun i hi => ?_, fun i j hi hj h => ?_, fun x hx => ?_⟩
  · by_cases e : i = n
    · subst e; rw [e2]; omega
    · have := I.lt i (by omega); rw [e1 i (by omega)]; omega
  · by_cases e : i = n
    · by_cases e' : j = n
      · omega
      · subst e; rw [e2, e1 j (by omega)] at h; have := I.lt j (by omega); omega
    · by_cases e' : j = n
      · subst e'; rw [e2, e1 i (by omega)] at h; have := I.lt i (by omega); omega
      · rw [e1 i (by omega), e1 j (by omega)] at h; exact I.inj i j (by omega) (by omega) h
  · by_cases e : x = n
    · exact ⟨n, by omega, by rw [e2, e]⟩
    · obtain ⟨i, a, b⟩ := I.onto x (by omega)
      exact ⟨i, by omega, by rw [e1 i a]; exact b⟩
theorem PermL.swap {n : Nat} {l : List Int} (I : PermL n l) {i k : Nat} (hi : i < n) (hk : k < n) : PermL n ((l.set i (nth l k)).set k (nth l i)) := by
  obtain ⟨σ, hσ⟩ : ∃ σ : Nat → Nat, ∀ j, σ j = if j = k then i else if j = i then k else j := ⟨_, fun _ => rfl⟩
  have e : ∀ j, nth ((l.set i (nth l k)).set k (nth l i)) j = nth l (σ j) := fun j => by
    rw [nth_set _ (by simp [I.len]; exact hk), nth_set _ (by rw [I.len]; exact hi), hσ]
    split
    · rfl
    · split <;> rfl
  have b : ∀ j, j < n → σ j < n := fun j hj => by rw [hσ]; split; exact hi; split; exact hk; exact hj
  have s : ∀ j, σ (σ j) = j := fun j => by
    rw [hσ (σ j), hσ j]
    by_cases a : j = k
    · rw [if_pos a]; by_cases c : i = k
      · rw [if_pos c]; omega
      · rw [if_neg c, if_pos rfl]; exact a.symm
    · rw [if_neg a]
      by_cases c : j = i
      · rw [if_pos c, if_pos rfl]; exact c.symm
      · rw [if_neg c, if_neg a, if_neg c]
  refine ⟨by simp [I.len], fun j hj => by rw [e]; exact I.lt _ (b j hj), fun a c ha hc h => ?_, fun x hx => ?_⟩
  · rw [e, e] at h
    have := I.inj _ _ (b a ha) (b c hc) h
    rw [← s a, this, s c]
  · obtain ⟨j, a, c⟩ := I.onto x hx
    exact ⟨σ j, b j a, by rw [e, s]; exact c⟩

def ShufPost (p : Nat) (v : Value) (xs : List Int) (n : Nat) (w : World) (e : Ending) (w' : World) : Prop :=
  ∃ u l, e = .returned u ∧ PermL n l ∧ MW p v xs w w' [pRow w.heap.size 3 1 n u (intsV l)]
def ShufAt (p : Nat) (v : Value) (xs : List Int) (h : Nat) (w : World) (u : Value) (W : World) : Prop :=
  ∃ l, PermL h l ∧ MW p v xs w W [pRow w.heap.size 3 1 h u (intsV l)]
set_option maxRecDepth 100000 in
set_option maxHeartbeats 4000000 in
theorem shuffled_any (p : Nat) (v : Value) (xs : List Int) (n : Nat) (w : World) (hc : ChuteAt w p v xs) (hn : n ≤ 100) :
    Calls Try.prog 53 #[.pointer (some ⟨p, 0, none⟩), .int .i64 n] w (ShufPost p v xs n w) := by
  have HST : Hid (ShufAt p v xs 0 w (.slice none 0 0) w) := ⟨[], PermL.nil, hc.lt, (Sep.nil w _).newRow (Nat.le_refl _) w.heap.size 3 1, hc, Turned.refl p w⟩
  have hn0 : ¬ (n : Int) < 0 := by omega
  clear hc
  go_enter Try.func53, Try.ntmps53
  go_wp2_with fail
  go_loopw [5, 11] (fun u i wr => ∃ h : Nat, h ≤ n ∧ i = .int .i64 h ∧ Hid (ShufAt p v xs h w u wr)) (fun _ i _ => n - (intOf i).toNat)
  case atStart => exact ⟨0, Nat.zero_le _, rfl, HST⟩
  case round =>
    obtain ⟨h, hh, rfl, HR⟩ := hrel
    by_cases hlt : h < n
    · have hhi : (h : Int) < n := by omega
      obtain ⟨l, hP, hM⟩ := HR.out
      obtain ⟨ul1, ul2, rfl⟩ := owns_slice (hM.at 0 rfl)
      have HP := Lib.hid hP
      have HM1 := Lib.hid (hM.alloc (.cells #[.int .i64 h] 3))
      clear hP hM HR HST
      go_wp2_with (at_builtin; refine HM1.out.list_int 0 l (h : Int) rfl (by omega) rfl _ _ rfl rfl wr.heap.size rfl (cell_one_new _ _ _) ?_)
      intro g cap w7 hm7 _ _
      have HP1 := Lib.hid HP.out.snoc
      have HM7 := Lib.hid hm7
      clear hm7
      go_wp2_with fail
      refine (pull_any p v xs ((h : Int) + 1) _ HM7.out.chute (by omega) (by omega)).mono ?_
      rintro e w8 ⟨x, rfl, x0, x1, hc8, ht8⟩
      obtain ⟨k, rfl⟩ : ∃ k : Nat, x = k := ⟨x.toNat, by omega⟩
      have hk : k < h + 1 := by omega
      have HM8 := Lib.hid (HM7.out.turn hc8 ht8)
      obtain ⟨q, hq⟩ : ∃ q : List Int, l ++ [(h : Int)] = q := ⟨_, rfl⟩
      have hp1 := HP1.out
      have hm8 := HM8.out
      rw [hq] at hp1 hm8
      have HP1 := Lib.hid hp1
      have HM8 := Lib.hid hm8
      have hql : q.length = h + 1 := hp1.len
      have hc1 := (hm8.at 0 rfl).cellAt h (by omega)
      have hc2 := (hm8.at 0 rfl).cellAt k (by omega)
      have hf1 := (hm8.at 0 rfl).frozenAt h
      have hv : ∀ j, j < h + 1 → (intsV q)[j]? = some (.int .i64 (nth q j)) := fun j hj => by
        rw [nth_eq (by omega)]
        simp [intsV]
      rw [hv h (by omega)] at hc1
      rw [hv k hk] at hc2
      have HM9 := Lib.hid (hm8.setRow 0 rfl h (.int .i64 (nth q k)))
      have hf2 := (HM9.out.at 0 rfl).frozenAt k
      have HM10 := Lib.hid (HM9.out.setRow 0 rfl k (.int .i64 (nth q h)))
      have hki : (k : Int) < (h : Int) + 1 := by omega
      have hc3 := (HM9.out.at 0 rfl).cellAt k (by omega)
      have hc4 : ∃ z, ((intsV q).set h (.int .i64 (nth q k)))[k]? = some z := ⟨_, List.getElem?_eq_getElem (by simp [intsV]; omega)⟩
      obtain ⟨z, hz⟩ := hc4
      rw [hz] at hc3
      have HPS := Lib.hid (HP1.out.swap (i := h) (k := k) (by omega) hk)
      obtain ⟨X, hX⟩ : ∃ X, nth q h = X := ⟨_, rfl⟩
      obtain ⟨Y, hY⟩ : ∃ Y, nth q k = Y := ⟨_, rfl⟩
      rw [hX, hY] at HPS HM10
      rw [hX] at hc1
      rw [hY] at hc2 hc3 hf2
      clear hq hp1 hm8 hql hv hz hc8 ht8 HM7 HM1 HP HM8 HM9 x0 x1 hX hY
      go_wp2_with fail
      go_roundw
      case rel =>
        refine ⟨h + 1, by omega, by go_num, _, HPS.out, ?_⟩
        have := HM10.out
        rw [show ([pRow w.heap.size 3 1 (h + 1) (.slice (some ⟨g, 0, none⟩) (h + 1) cap) (intsV q)].set 0 (pRow w.heap.size 3 1 (h + 1) (.slice (some ⟨g, 0, none⟩) (h + 1) cap) ((intsV q).set h (.int .i64 Y)))).set 0 (pRow w.heap.size 3 1 (h + 1) (.slice (some ⟨g, 0, none⟩) (h + 1) cap) (((intsV q).set h (.int .i64 Y)).set k (.int .i64 X))) = [pRow w.heap.size 3 1 (h + 1) (.slice (some ⟨g, 0, none⟩) (h + 1) cap) (intsV ((q.set h Y).set k X))] by rw [intsL_set, intsL_set]; rfl] at this
        exact this
      case measure => simp [intOf]; omega
    · obtain rfl : h = n := by omega
      go_wp2_with fail
      go_ret
      obtain ⟨l, h1, h2⟩ := HR.out
      exact ⟨_, l, rfl, h1, h2⟩
end Go.Proofs.Ytnhifinfjfpoiaa

namespace Go.Proofs.Ytnhifinfjfpoiaa
open Go.RowKit
set_option linter.unusedVariables false
set_option linter.unusedSimpArgs false

/-- A list into which the first h numbers of another one were put, each at its new place. -/
def putL (l src nm : List Int) : Nat → List Int
  | 0 => l
  | h + 1 => (putL l src nm h).set (nth nm h).toNat (nth src h)
theorem putL_succ (l src nm : List Int) (h : Nat) : putL l src nm (h + 1) = (putL l src nm h).set (nth nm h).toNat (nth src h) := rfl
theorem putL_len (l src nm : List Int) : ∀ h, (putL l src nm h).length = l.length
  | 0 => rfl
  | h + 1 => by unfold putL; rw [List.length_set, putL_len l src nm h]
theorem PermL.at {n : Nat} {nm : List Int} (I : PermL n nm) {x : Nat} (hx : x < n) : (nth nm x).toNat < n := by have := I.lt x hx; omega
theorem PermL.one {n : Nat} {nm : List Int} (I : PermL n nm) {x y : Nat} (hx : x < n) (hy : y < n) (h : (nth nm x).toNat = (nth nm y).toNat) : x = y := I.inj x y hx hy (by have := I.lt x hx; have := I.lt y hy; omega)
theorem putL_nth {n : Nat} {l src nm : List Int} (I : PermL n nm) (hl : l.length = n) : ∀ h, h ≤ n → ∀ x, x < h → nth (putL l src nm h) (nth nm x).toNat = nth src x
  | 0, _, x, hx => by omega
  | h + 1, hh, x, hx => by
    unfold putL
    rw [nth_set _ (by rw [putL_len, hl]; exact I.at (by omega))]
    by_cases e : x = h
    · subst e; rw [if_pos rfl]
    · rw [if_neg (fun q => e (I.one (by omega) (by omega) q))]
      exact putL_nth I hl h (by omega) x (by omega)
/-- The nights: the houses below h are done, and in the nights below i house h, too. -/
def nightsUp (N : List (List Int)) (nm : List Int) (h i : Nat) : List (List Int) := (List.range N.length).map fun j => putL (nthR N j) (nthR N j) nm (if j < i then h + 1 else h)
theorem nightsUp_len (N : List (List Int)) (nm : List Int) (h i : Nat) : (nightsUp N nm h i).length = N.length := by simp [nightsUp]
theorem nightsUp_nth {N : List (List Int)} {nm : List Int} {h i j : Nat} (hj : j < N.length) : nthR (nightsUp N nm h i) j = putL (nthR N j) (nthR N j) nm (if j < i then h + 1 else h) := by
  rw [nthR_eq (by rw [nightsUp_len]; exact hj)]
  simp [nightsUp]
theorem nthR_ext {A B : List (List Int)} (hl : A.length = B.length) (h : ∀ j, j < A.length → nthR A j = nthR B j) : A = B :=
  List.ext_getElem hl fun i h1 h2 => by rw [← nthR_eq h1, ← nthR_eq h2]; exact h i h1
theorem nightsUp_zero (N : List (List Int)) (nm : List Int) : nightsUp N nm 0 0 = N :=
  nthR_ext (nightsUp_len _ _ _ _) fun j hj => by
    rw [nightsUp_len] at hj
    rw [nightsUp_nth hj, if_neg (Nat.not_lt_zero _)]; rfl
theorem nightsUp_row (N : List (List Int)) (nm : List Int) (h : Nat) : nightsUp N nm h N.length = nightsUp N nm (h + 1) 0 :=
  nthR_ext (by rw [nightsUp_len, nightsUp_len]) fun j hj => by
    rw [nightsUp_len] at hj
    rw [nightsUp_nth hj, nightsUp_nth hj, if_pos hj, if_neg (Nat.not_lt_zero _)]
theorem nthR_set {A : List (List Int)} {i j : Nat} (r : List Int) (hi : i < A.length) : nthR (A.set i r) j = if j = i then r else nthR A j := by
  unfold nthR
  rw [List.getD_eq_getElem?_getD, List.getD_eq_getElem?_getD, List.getElem?_set]
  by_cases e : j = i
  · subst e; simp [hi]
  · rw [if_neg (fun q => e q.symm), if_neg e]
theorem nightsUp_set {N : List (List Int)} {nm : List Int} {h i : Nat} (hi : i < N.length) : (nightsUp N nm h i).set i ((nthR (nightsUp N nm h i) i).set (nth nm h).toNat (nth (nthR N i) h)) = nightsUp N nm h (i + 1) :=
  nthR_ext (by rw [List.length_set, nightsUp_len, nightsUp_len]) fun j hj => by
    rw [List.length_set, nightsUp_len] at hj
    rw [nthR_set _ (by rw [nightsUp_len]; exact hi), nightsUp_nth hj, nightsUp_nth hi, nightsUp_nth hj]
    by_cases e : j = i
    · subst e
      rw [if_pos rfl, if_neg (Nat.lt_irrefl _), if_pos (Nat.lt_succ_self _)]; rfl
    · rw [if_neg e]
      by_cases c : j < i
      · rw [if_pos c, if_pos (by omega)]
      · rw [if_neg c, if_neg (by omega)]
/-- The runs below k, told from their other ends. -/
def turnR (nm : List Int) (r : Int × Int) : Int × Int := (nth nm r.2.toNat, nth nm r.1.toNat)
def runsUp (rs : List (Int × Int)) (nm : List Int) (k : Nat) : List (Int × Int) := (List.range rs.length).map fun j => if j < k then turnR nm (nthP rs j) else nthP rs j
theorem runsUp_len (rs : List (Int × Int)) (nm : List Int) (k : Nat) : (runsUp rs nm k).length = rs.length := by simp [runsUp]
theorem runsUp_nth {rs : List (Int × Int)} {nm : List Int} {k j : Nat} (hj : j < rs.length) : nthP (runsUp rs nm k) j = if j < k then turnR nm (nthP rs j) else nthP rs j := by
  rw [nthP_eq (by rw [runsUp_len]; exact hj)]
  simp [runsUp]
theorem nthP_ext {A B : List (Int × Int)} (hl : A.length = B.length) (h : ∀ j, j < A.length → nthP A j = nthP B j) : A = B :=
  List.ext_getElem hl fun i h1 h2 => by rw [← nthP_eq h1, ← nthP_eq h2]; exact h i h1
theorem runsUp_zero (rs : List (Int × Int)) (nm : List Int) : runsUp rs nm 0 = rs :=
  nthP_ext (runsUp_len _ _ _) fun j hj => by
    rw [runsUp_len] at hj
    rw [runsUp_nth hj, if_neg (Nat.not_lt_zero _)]
theorem runsUp_set {rs : List (Int × Int)} {nm : List Int} {k : Nat} (hk : k < rs.length) : (runsUp rs nm k).set k (turnR nm (nthP rs k)) = runsUp rs nm (k + 1) := by
  refine List.ext_getElem (by rw [List.length_set, runsUp_len, runsUp_len]) fun j h1 h2 => ?_
  rw [List.length_set, runsUp_len] at h1
  have e1 := runsUp_nth (nm := nm) (k := k) h1
  have e2 := runsUp_nth (nm := nm) (k := k + 1) h1
  rw [nthP_eq (by rw [runsUp_len]; exact h1)] at e1 e2
  rw [List.getElem_set, e2, e1]
  by_cases e : k = j
  · subst e; rw [if_pos rfl, if_pos (Nat.lt_succ_self _)]
  · rw [if_neg e]
    by_cases c : j < k
    · rw [if_pos c, if_pos (by omega)]
    · rw [if_neg c, if_neg (by omega)]
theorem pairsV_set (l : List (Int × Int)) (r : Int × Int) : ∀ i, ((pairsV l).set (i * 2) (.int .i64 r.1)).set (i * 2 + 1) (.int .i64 r.2) = pairsV (l.set i r) := by
  induction l with
  | nil => intro i; simp [pairsV]
  | cons a l ih =>
    intro i
    cases i with
    | zero => rfl
    | succ i =>
      have e : (i + 1) * 2 = i * 2 + 1 + 1 := by omega
      rw [e]
      show (Value.int .i64 a.1 :: Value.int .i64 a.2 :: (((pairsV l).set (i * 2) (.int .i64 r.1)).set (i * 2 + 1) (.int .i64 r.2))) = _
      rw [ih i]; rfl

/-- The colony whose houses have their new names. -/
def namedC (rooms traps : List Int) (rs : List (Int × Int)) (N : List (List Int)) (nm : List Int) : Col :=
  ⟨putL rooms rooms nm rooms.length, putL traps traps nm rooms.length, runsUp rs nm rs.length, nightsUp N nm rooms.length 0⟩
theorem named_ren {rooms traps : List Int} {rs : List (Int × Int)} {N : List (List Int)} {nm : List Int} (I : PermL rooms.length nm) (hck : checkC ⟨rooms, traps, rs, N⟩ = 0) :
    ∃ p r, Ren rooms.length ⟨rooms, traps, rs, N⟩ (namedC rooms traps rs N nm) p r ∧ ∀ x, x < rooms.length → p x = (nth nm x).toNat := by
  have ok := okCol_of hck
  obtain ⟨r, hr⟩ : ∃ r : Nat → Nat, ∀ x, x < rooms.length → r x < rooms.length ∧ nth nm (r x) = (x : Int) := by
    have : ∀ x, ∃ y, x < rooms.length → y < rooms.length ∧ nth nm y = (x : Int) := fun x => by
      by_cases hx : x < rooms.length
      · obtain ⟨y, a, b⟩ := I.onto x hx
        exact ⟨y, fun _ => ⟨a, b⟩⟩
      · exact ⟨0, fun h => absurd h hx⟩
    exact ⟨fun x => (this x).choose, fun x hx => (this x).choose_spec hx⟩
  have rn : ∀ x, x < rooms.length → r x < rooms.length := fun x hx => (hr x hx).1
  have pr : ∀ x, x < rooms.length → (nth nm (r x)).toNat = x := fun x hx => by have := (hr x hx).2; omega
  have rp : ∀ x, x < rooms.length → r (nth nm x).toNat = x := fun x hx => I.one (rn _ (I.at hx)) hx (pr _ (I.at hx))
  have oT : traps.length = rooms.length := ok.traps
  have oN : ∀ i, i < N.length → (nthR N i).length = rooms.length := ok.row
  have room : ∀ x, x < rooms.length → nth (putL rooms rooms nm rooms.length) (nth nm x).toNat = nth rooms x := fun x hx => putL_nth I rfl _ (Nat.le_refl _) x hx
  have trap : ∀ x, x < rooms.length → nth (putL traps traps nm rooms.length) (nth nm x).toNat = nth traps x := fun x hx => putL_nth I oT _ (Nat.le_refl _) x hx
  have night : ∀ i x, i < N.length → x < rooms.length → nth (nthR (nightsUp N nm rooms.length 0) i) (nth nm x).toNat = nth (nthR N i) x := fun i x hi hx => by
    rw [nightsUp_nth hi, if_neg (Nat.not_lt_zero _)]; exact putL_nth I (oN i hi) _ (Nat.le_refl _) x hx
  have back : ∀ (P : Nat → Prop), (∀ x, x < rooms.length → P (nth nm x).toNat) → ∀ y, y < rooms.length → P y := fun P h y hy => by have := h (r y) (rn y hy); rwa [pr y hy] at this
  have run : ∀ i, i < rs.length → 0 ≤ (nthP rs i).1 ∧ (nthP rs i).1 < rooms.length ∧ 0 ≤ (nthP rs i).2 ∧ (nthP rs i).2 < rooms.length := ok.run
  have runO : ∀ i, i < rs.length → nthP (runsUp rs nm rs.length) i = turnR nm (nthP rs i) := fun i hi => by rw [runsUp_nth hi, if_pos hi]
  have one : ∀ {a b : Int}, 0 ≤ a → a < rooms.length → 0 ≤ b → b < rooms.length → nth nm a.toNat = nth nm b.toNat → a = b := fun {a b} a0 a1 b0 b1 h => by
    have := I.inj a.toNat b.toNat (by omega) (by omega) h; omega
  have joinsT : ∀ i, i < rs.length → ∀ a b : Nat, a < rooms.length → b < rooms.length → joinsB (turnR nm (nthP rs i)) (nth nm a) (nth nm b) = joinsB (nthP rs i) a b := fun i hi a b ha hb => by
    obtain ⟨r1, r2, r3, r4⟩ := run i hi
    have key : ∀ (x : Int) (c : Nat), 0 ≤ x → x < rooms.length → c < rooms.length → (nth nm x.toNat == nth nm c) = (x == (c : Int)) := fun x c h0 h1 hc => by
      rw [Bool.eq_iff_iff, beq_iff_eq, beq_iff_eq]
      constructor
      · intro h; have := I.inj x.toNat c (by omega) hc h; omega
      · intro h; subst h; rfl
    unfold joinsB turnR
    simp only
    rw [key _ _ r1 r2 ha, key _ _ r1 r2 hb, key _ _ r3 r4 ha, key _ _ r3 r4 hb]
    cases ((nthP rs i).1 == (a : Int)) <;> cases ((nthP rs i).2 == (b : Int)) <;> cases ((nthP rs i).1 == (b : Int)) <;> cases ((nthP rs i).2 == (a : Int)) <;> rfl
  have okO : OkCol (namedC rooms traps rs N nm) := by
    refine ⟨by show 1 ≤ (putL rooms rooms nm rooms.length).length ∧ (putL rooms rooms nm rooms.length).length ≤ 6; rw [putL_len]; exact ok.houses, ?_, ?_, ?_, fun i hi => ?_, fun i hi => ?_, fun i hi => ?_, fun i h hi hh => ?_, fun i hi => ?_, fun i hi => ?_, fun i k hi hk => ?_⟩
    · show (putL traps traps nm _).length = (putL rooms rooms nm _).length
      rw [putL_len, putL_len]; exact oT
    · show (runsUp rs nm _).length ≤ 12
      rw [runsUp_len]; exact ok.runs
    · show (nightsUp N nm _ 0).length ≤ 6
      rw [nightsUp_len]; exact ok.nights
    · have hi' : i < N.length := by have : i < (nightsUp N nm rooms.length 0).length := hi; rwa [nightsUp_len] at this
      show (nthR (nightsUp N nm _ 0) i).length = (putL rooms rooms nm _).length
      rw [nightsUp_nth hi', putL_len, putL_len]; exact oN i hi'
    · have hi' : i < rooms.length := by have : i < (putL rooms rooms nm rooms.length).length := hi; rwa [putL_len] at this
      exact back (fun y => 0 ≤ nth (putL rooms rooms nm rooms.length) y ∧ nth (putL rooms rooms nm rooms.length) y ≤ 60) (fun x hx => by rw [room x hx]; exact ok.room x hx) i hi'
    · have hi' : i < rooms.length := by have : i < (putL rooms rooms nm rooms.length).length := hi; rwa [putL_len] at this
      exact back (fun y => 0 ≤ nth (putL traps traps nm rooms.length) y ∧ nth (putL traps traps nm rooms.length) y ≤ 9) (fun x hx => by rw [trap x hx]; exact ok.trap x hx) i hi'
    · have hi' : i < N.length := by have : i < (nightsUp N nm rooms.length 0).length := hi; rwa [nightsUp_len] at this
      have hh' : h < rooms.length := by have : h < (putL rooms rooms nm rooms.length).length := hh; rwa [putL_len] at this
      exact back (fun y => 0 ≤ nth (nthR (nightsUp N nm rooms.length 0) i) y ∧ nth (nthR (nightsUp N nm rooms.length 0) i) y ≤ nth (putL traps traps nm rooms.length) y) (fun x hx => by rw [night i x hi' hx, trap x hx]; exact ok.night i x hi' hx) h hh'
    · have hi' : i < rs.length := by have : i < (runsUp rs nm rs.length).length := hi; rwa [runsUp_len] at this
      show 0 ≤ (nthP (runsUp rs nm _) i).1 ∧ (nthP (runsUp rs nm _) i).1 < ((putL rooms rooms nm _).length : Int) ∧ 0 ≤ (nthP (runsUp rs nm _) i).2 ∧ (nthP (runsUp rs nm _) i).2 < ((putL rooms rooms nm _).length : Int)
      rw [runO i hi', putL_len]
      obtain ⟨r1, r2, r3, r4⟩ := run i hi'
      have a := I.lt (nthP rs i).1.toNat (by omega)
      have b := I.lt (nthP rs i).2.toNat (by omega)
      exact ⟨b.1, b.2, a.1, a.2⟩
    · have hi' : i < rs.length := by have : i < (runsUp rs nm rs.length).length := hi; rwa [runsUp_len] at this
      show (nthP (runsUp rs nm _) i).1 ≠ (nthP (runsUp rs nm _) i).2
      rw [runO i hi']
      obtain ⟨r1, r2, r3, r4⟩ := run i hi'
      exact fun h => ok.differ i hi' (one r1 r2 r3 r4 h.symm)
    · have hi' : i < rs.length := by have : i < (runsUp rs nm rs.length).length := hi; rwa [runsUp_len] at this
      show joinsB (nthP (runsUp rs nm _) k) (nthP (runsUp rs nm _) i).1 (nthP (runsUp rs nm _) i).2 = false
      rw [runO i hi', runO k (by omega)]
      obtain ⟨r1, r2, r3, r4⟩ := run i hi'
      have := joinsT k (by omega) (nthP rs i).2.toNat (nthP rs i).1.toNat (by omega) (by omega)
      show joinsB (turnR nm (nthP rs k)) (nth nm (nthP rs i).2.toNat) (nth nm (nthP rs i).1.toNat) = false
      rw [this]
      have h2 := ok.once i k hi' hk
      rw [show (((nthP rs i).2.toNat : Nat) : Int) = (nthP rs i).2 by omega, show (((nthP rs i).1.toNat : Nat) : Int) = (nthP rs i).1 by omega]
      have sw : ∀ (q : Int × Int) (a b : Int), joinsB q b a = joinsB q a b := fun q a b => by
        unfold joinsB
        cases (q.1 == a) <;> cases (q.2 == b) <;> cases (q.1 == b) <;> cases (q.2 == a) <;> rfl
      rw [sw]; exact h2
  refine ⟨fun x => (nth nm x).toNat, r, ⟨rfl, putL_len _ _ _ _, ok, okO, fun x hx => I.at hx, rn, rp, pr, room, trap, nightsUp_len _ _ _ _, night, fun a b ha hb => ?_⟩, fun x _ => rfl⟩
  have la := I.lt a ha
  have lb := I.lt b hb
  show goesI (namedC rooms traps rs N nm) ((nth nm a).toNat : Nat) ((nth nm b).toNat : Nat) = goesI ⟨rooms, traps, rs, N⟩ (a : Int) (b : Int)
  rw [show (((nth nm a).toNat : Nat) : Int) = nth nm a by omega, show (((nth nm b).toNat : Nat) : Int) = nth nm b by omega]
  unfold goesI
  congr 1
  · rw [Bool.eq_iff_iff, anyB_ex, anyB_ex]
    show (∃ i, i < (runsUp rs nm rs.length).length ∧ joinsB (nthP (runsUp rs nm rs.length) i) (nth nm a) (nth nm b) = true) ↔ ∃ i, i < rs.length ∧ joinsB (nthP rs i) a b = true
    rw [runsUp_len]
    constructor
    · rintro ⟨i, hi, h⟩
      rw [runO i hi, joinsT i hi a b ha hb] at h
      exact ⟨i, hi, h⟩
    · rintro ⟨i, hi, h⟩
      exact ⟨i, hi, by rw [runO i hi, joinsT i hi a b ha hb]; exact h⟩
  · rw [Bool.eq_iff_iff, beq_iff_eq, beq_iff_eq]
    constructor
    · intro h; have := I.inj a b ha hb h; omega
    · intro h
      have : a = b := by omega
      rw [this]
section
variable {w W : World} {ps : List Part}
/-- A cell of a row of one's own is set. -/
theorem PW.setRow (h : PW w W ps) (i : Nat) {B e sz n g cap : Nat} {l : List Value} (hi : ps[i]? = some (pRow B e sz n (.slice (some ⟨g, 0, none⟩) n cap) l)) (o : Nat) (x : Value) : PW w (W.setCell ⟨g, o, none⟩ x) (ps.set i (pRow B e sz n (.slice (some ⟨g, 0, none⟩) n cap) (l.set o x))) :=
  ⟨by have := h.sep.setRow h.size i hi o x; simpa using this, h.low.setCell (p := ⟨g, o, none⟩) (h.ge i hi (k := g) rfl).1 _⟩
/-- A number of a row of rows is set. -/
theorem PW.setRows (h : PW w W ps) (i : Nat) {B n : Nat} {v : Value} {nb : Nat → Nat} {rows : List (List Int)} (hi : ps[i]? = some (pRowsI B n v nb rows)) {j o : Nat} (hj : j < rows.length) (ho : o < n) (x : Int) :
    PW w (W.setCell ⟨nb j, o, none⟩ (.int .i64 x)) (ps.set i (pRowsI B n v nb (rows.set j ((nthR rows j).set o x)))) := by
  have ht := h.at i hi
  obtain ⟨⟨⟨fs, h1, h2⟩, h3⟩, h4⟩ := ht
  have hge := h.ge i hi (k := nb j) (.inr ⟨j, hj, rfl⟩)
  refine h.setPart i hi _ ((Below.refl _ W).setCell (p := ⟨nb j, o, none⟩) hge.1 _) (fun k _ _ hk => Below.heap_setCell _ _ _ _ (fun e => hk (.inr ⟨j, hj, e⟩))) ?_ (fun k hk => ?_)
  · have hne : v.ownBlock ≠ some (nb j) := fun e => by
      obtain ⟨A, e1, _⟩ := (h3 j hj).2
      exact absurd e.symm (not_own h1 e1 (by decide))
    refine ⟨⟨⟨fs, ?_, fun t ht => ?_⟩, fun t ht => ?_⟩, fun a b ha hb e => h4 a b (by simpa using ha) (by simpa using hb) e⟩
    · rw [List.length_set]
      exact owns_eq h1 (fun k e => Below.heap_setCell _ _ _ _ (fun q => hne (by rw [e, q])))
    · rw [List.length_set] at ht
      exact h2 t ht
    · rw [List.length_set] at ht
      rw [nthR_set _ hj]
      by_cases e : t = j
      · subst e
        rw [if_pos rfl]
        refine ⟨by rw [List.length_set]; exact (h3 t ht).1, (IntBlk.set (h3 t ht).2 x ho).same fun q hq => ?_⟩
        rw [nth_set _ (by rw [(h3 t ht).1]; exact ho)]
      · rw [if_neg e]
        refine ⟨(h3 t ht).1, (h3 t ht).2.eq (Below.heap_setCell _ _ _ _ (fun q => e (h4 t j ht hj q)))⟩
  · refine .inl ?_
    rcases hk with hk | ⟨t, ht, e⟩
    · exact .inl hk
    · exact .inr ⟨t, by simpa using ht, e⟩
end
end Go.Proofs.Ytnhifinfjfpoiaa
