/- A row of one's own appended to rows of one's own, as a step of a region that draws its order. Plain law of RatNext: what can be in a house in the next night, and a night in which no trap caught anything. An operation of a region, by its run alone. A colony stored into its box. -/
import Derived.Test.YtnhifinfjfpoiaaK13
import Derived.Test.YtnhifinfjfpoiaaK15
import Derived.Test.YtnhifinfjfpoiaaK07
import Derived.Test.YtnhifinfjfpoiaaK11
namespace Go.Proofs.Ytnhifinfjfpoiaa
open Go.RowKit
set_option linter.unusedVariables false
set_option linter.unusedSimpArgs false

section
variable {w W : World} {ps : List Part}
theorem PW.join (h : PW w W ps) (i j : Nat) {x y : Part} (hi : ps[i]? = some x) (hj : ps[j]? = some y) (hij : i ≠ j) : PW w W ((ps.set i (x.and y)).set j Part.none) :=
  h.hi (Below.refl _ _) (h.sep.join i j hi hj hij)
theorem PW.step_rows (h : PW w W ps) {B n b c : Nat} {u : Value} {nb : Nat → Nat} {rows : List (List Int)} {f : Nat → Int} {r1 : List Int} (hr1 : (List.range n).map f = r1) (i j : Nat) (hi : ps[i]? = some (pRowsI B n u nb rows)) (hj : ps[j]? = some (pInt b n f)) (hij : i ≠ j) (hB : B ≤ W.heap.size) (hn : rows.length ≤ 1000) (hc : n ≤ c)
    {ops : Array Oper} {o : Oper} {a : Act} {Q : Exit → Act → World → Prop} {K : Act → World → Prop} {E : Prop} (hgd : o.guard = none) (s x : Operand) (ho : o.op = .call { callee := .builtin .append, args := #[s, x], argTypes := #[24, 24] }) (hs : a.eval s = u) (gb : Nat) (hx : a.eval x = .slice (some ⟨gb, 0, none⟩) 1 1)
    (hcell : ∀ (j : Nat) (z : Value), ([.slice (some ⟨b, 0, none⟩) n c] : List Value)[j]? = some z → W.cell? ((⟨gb, 0, none⟩ : Addr).add j) = some z)
    (hk : ∀ g cap w', PW w w' ((ps.set i (pRows B n (.slice (some ⟨g, 0, none⟩) (rows.length + 1) cap) (fun t => if t = rows.length then b else nb t) (rows ++ [r1]))).set j Part.none) → Below w.heap.size W w' → K (a.put o.dst (.slice (some ⟨g, 0, none⟩) (rows.length + 1) cap)) w') :
    if Region.wanted o (yielded ops a.tmps) = true then Oper.wp Try.prog o a W K Q else E := by
  subst hr1
  obtain ⟨i0, hif, hz0, hz1, hz2⟩ := info_parts infoRow
  have hH := h.join i j hi hj hij
  obtain ⟨⟨⟨fs, hown, hfs⟩, hrows⟩, _⟩ : (pRowsI B n u nb rows).told W := h.at i hi
  have hint : IntBlk W b n f := h.at j hj
  have hilt : i < ps.length := (List.getElem?_eq_some_iff.1 hi).1
  have hge : ∀ r, u.ownBlock = some r → w.heap.size ≤ r := fun r hr => (h.ge i hi (k := r) (.inl hr)).1
  refine step_append_lies W hgd s x 24 ho B 22 i0 (.slice none 0 0) 1 24 Try.underlying24 hif hz0 hz1 hz2 rfl (by decide) u rows.length fs hs hown ⟨gb, 0, none⟩ 1 1 [.slice (some ⟨b, 0, none⟩) n c] hx rfl hcell (fun u hu => by simp at hu; subst hu; rfl) (by omega) (by unfold maxLen; omega) (by omega) hB W.heap.size rfl (fun g cap w' ho' hg hor hlt => ?_)
  have hb := below_grown (Below.refl w.heap.size W) hg hge h.size
  refine hk g cap w' ?_ hb
  have keep : ∀ {b' : Nat} {f' : Nat → Int}, IntBlk W b' n f' → IntBlk w' b' n f' := fun {b' f'} hB => by
    obtain ⟨A, e1, e2, e3⟩ := hB
    have hl := (Array.getElem?_eq_some_iff.1 e1).1
    exact ⟨A, (hg.block b' hl (not_own hown e1 (by decide))).trans e1, e2, e3⟩
  have hlen : fs.length = rows.length := by have := hown.1; omega
  have key := hH.setPart i (x := (pRowsI B n u nb rows).and (pInt b n f)) (by rw [List.getElem?_set_ne (fun e => hij e.symm), List.getElem?_set_self hilt]) (pRows B n (.slice (some ⟨g, 0, none⟩) (rows.length + 1) cap) (fun t => if t = rows.length then b else nb t) (rows ++ [(List.range n).map f])) hb (fun k _ hk hne => ?_) ?_ (fun k hk => ?_)
  · rw [List.set_comm _ _ hij, List.set_set] at key
    rw [List.set_comm _ _ hij]
    exact key
  · refine hg.block k hk (fun e => hne (.inl (.inl e.symm)))
  · refine ⟨⟨fs ++ [.slice (some ⟨b, 0, none⟩) n c], by simpa using ho', fun t ht => ?_⟩, fun t ht => ?_⟩
    · by_cases e : t = rows.length
      · subst e
        exact ⟨c, hc, by rw [List.getElem?_append_right (by omega)]; simp [hlen]⟩
      · have ht' : t < rows.length := by simp at ht; omega
        obtain ⟨c', h1, h2⟩ := hfs t ht'
        simp only [if_neg e]
        exact ⟨c', h1, by rw [List.getElem?_append_left (by omega)]; exact h2⟩
    · by_cases e : t = rows.length
      · subst e
        rw [nthR_new]
        simp only [if_pos]
        refine ⟨by simp, (keep hint).same fun q hq => ?_⟩
        simp [nth, hq]
      · have ht' : t < rows.length := by simp at ht; omega
        rw [nthR_app ht']
        simp only [if_neg e]
        exact ⟨(hrows t ht').1, keep (hrows t ht').2⟩
  · rcases hk with hk | ⟨t, ht, rfl⟩
    · have hk' : g = k := Option.some.inj hk
      subst hk'
      rcases hor with e | e
      · exact .inl (.inl (.inl e))
      · exact .inr ⟨by omega, hlt⟩
    · by_cases e : t = rows.length
      · simp only [if_pos e]; exact .inl (.inr rfl)
      · have ht' : t < rows.length := by simp at ht; omega
        simp only [if_neg e]; exact .inl (.inl (.inr ⟨t, ht', rfl⟩))
end
theorem cols_read {W : World} {B1 B2 B3 B4 n : Nat} {r t u nn : Value} {rooms traps : List Int} {rs : List (Int × Int)} {nb : Nat → Nat} {N : List (List Int)} (hck : checkC ⟨rooms, traps, rs, N⟩ = 0) (hl : rooms.length = n)
    (p2 : (pRow B1 3 1 n r (intsV rooms)).told W) (p3 : (pRow B2 3 1 n t (intsV traps)).told W) (p4 : (pRow B3 63 2 rs.length u (pairsV rs)).told W) (p5 : (pRows B4 n nn nb N).told W) : ColAt W W.heap.size r t u nn ⟨rooms, traps, rs, N⟩ := by
  subst hl
  have k := okCol_of hck
  have hn : rooms.length ≤ 6 := k.houses.2
  have ht : traps.length = rooms.length := k.traps
  refine ⟨?_, ?_, ?_, ?_⟩
  · show IsInts W W.heap.size r rooms
    refine nums_of_owns p2 (fun x hx => ?_) (by omega)
    obtain ⟨i, hi, rfl⟩ := List.mem_iff_getElem.1 hx
    have := k.room i hi
    have e : nth (⟨rooms, traps, rs, N⟩ : Col).rooms i = rooms[i] := nth_eq hi
    rw [e] at this
    unfold I64; omega
  · show IsInts W W.heap.size t traps
    have p3' : W.ownsRow B2 3 1 t traps.length (intsV traps) := by rw [ht]; exact p3
    refine nums_of_owns p3' (fun x hx => ?_) (by omega)
    obtain ⟨i, hi, rfl⟩ := List.mem_iff_getElem.1 hx
    have := k.trap i (by show i < rooms.length; omega)
    have e : nth (⟨rooms, traps, rs, N⟩ : Col).traps i = traps[i] := nth_eq hi
    rw [e] at this
    unfold I64; omega
  · show IsPairs W W.heap.size u rs
    refine pairs_of_owns p4 (fun q hq => ?_) (by have := k.runs; have e : (⟨rooms, traps, rs, N⟩ : Col).runs.length = rs.length := rfl; omega)
    obtain ⟨i, hi, rfl⟩ := List.mem_iff_getElem.1 hq
    have := k.run i hi
    have e : nthP (⟨rooms, traps, rs, N⟩ : Col).runs i = rs[i] := nthP_eq hi
    have e2 : (⟨rooms, traps, rs, N⟩ : Col).rooms.length = rooms.length := rfl
    rw [e, e2] at this
    unfold I64; omega
  · show IsRows W W.heap.size nn N
    refine rows_of_part p5 (by omega) (by have := k.nights; have e : (⟨rooms, traps, rs, N⟩ : Col).nights.length = N.length := rfl; omega) (fun i j hi hj => ?_)
    have a := k.night i j hi hj
    have b := k.trap j hj
    have e : nth (nthR (⟨rooms, traps, rs, N⟩ : Col).nights i) j = nth (nthR N i) j := rfl
    rw [e] at a
    unfold I64; omega
theorem rows_nil (w : World) (B : Nat) : IsRows w B (.slice none 0 0) [] := ⟨fun _ => .slice none 0 0, ⟨none, 0, rfl, Nat.le_refl _, by simp, .inl rfl⟩, fun j hj => by simp at hj⟩
/-- A sum of noughts. -/
theorem totalI_any (l : List Int) (v : Value) (w : World) (h : IsInts w w.heap.size v l) (h0 : ∀ i, i < l.length → nth l i = 0) :
    Calls Try.prog 48 #[v] w fun e w' => e = .returned (.int .i64 0) ∧ w = w' := by
  obtain ⟨a, c, rfl, _, _, h3⟩ := h.open
  have H3 := Lib.hid h3
  have H0 := Lib.hid h0
  clear h h3 h0
  go_enter Try.func48, Try.ntmps48
  go_wp2_with fail
  go_loop [3, 8] (fun s i => ∃ k : Nat, k ≤ l.length ∧ i = .int .i64 k ∧ s = .int .i64 0) (fun _ i => l.length - (intOf i).toNat)
  case atStart => exact ⟨0, Nat.zero_le _, rfl, rfl⟩
  case round =>
    obtain ⟨k, hk, rfl, rfl⟩ := hrel
    by_cases hlt : k < l.length
    · have hki : (k : Int) < l.length := by omega
      obtain ⟨b, off, rfl, _, m⟩ := H3.out k hlt
      rw [H0.out k hlt] at m
      go_wp2_with fail
      go_round
      case rel => exact ⟨k + 1, by omega, by go_num, rfl⟩
      case measure => simp [intOf]; omega
    · obtain rfl : k = l.length := by omega
      go_wp2_with fail
      go_ret
      exact ⟨rfl, rfl⟩
end Go.Proofs.Ytnhifinfjfpoiaa

namespace Go.Proofs.Ytnhifinfjfpoiaa
open Go.RowKit
set_option linter.unusedVariables false
set_option linter.unusedSimpArgs false

/-- Rooms of some houses, and the rats from elsewhere. -/
def capV (c : Col) (V : Nat → Bool) : Int := roomsOf (nth c.rooms) V + elsewhere (needsC c) V
theorem cap_sub {c : Col} (ok : OkCol c) (V U : Nat → Bool) : capV c (fun h => V h || U h) + capV c (fun h => V h && U h) ≤ capV c V + capV c U := by
  have h1 : roomsOf (nth c.rooms) (fun h => V h || U h) + roomsOf (nth c.rooms) (fun h => V h && U h) = roomsOf (nth c.rooms) V + roomsOf (nth c.rooms) U := by
    unfold roomsOf
    rw [← sumN_add, ← sumN_add]
    exact sumN_congr fun h hh => by cases h1 : V h <;> cases h2 : U h <;> simp [h1, h2]
  have h2 : elsewhere (needsC c) (fun h => V h || U h) + elsewhere (needsC c) (fun h => V h && U h) ≤ elsewhere (needsC c) V + elsewhere (needsC c) U := by
    unfold elsewhere
    rw [← sumN_add, ← sumN_add]
    refine sumN_le fun o ho => ?_
    have hn := needs_nonneg ok o ho
    have a1 : subB (frm (needsC c) o) V = true → subB (frm (needsC c) o) (fun h => V h || U h) = true := fun h => subB_iff.2 fun j hj hb => by
      show (V j || U j) = true
      rw [subB_iff.1 h j hj hb]; rfl
    have a2 : subB (frm (needsC c) o) U = true → subB (frm (needsC c) o) (fun h => V h || U h) = true := fun h => subB_iff.2 fun j hj hb => by
      show (V j || U j) = true
      rw [subB_iff.1 h j hj hb, Bool.or_true]
    have a3 : subB (frm (needsC c) o) V = true → subB (frm (needsC c) o) U = true → subB (frm (needsC c) o) (fun h => V h && U h) = true := fun h k => subB_iff.2 fun j hj hb => by
      show (V j && U j) = true
      rw [subB_iff.1 h j hj hb, subB_iff.1 k j hj hb]; rfl
    by_cases v : subB (frm (needsC c) o) V = true
    · rw [if_pos v, if_pos (a1 v)]
      by_cases u : subB (frm (needsC c) o) U = true
      · rw [if_pos u, if_pos (a3 v u)]; omega
      · rw [if_neg u]; split <;> omega
    · rw [if_neg v]
      by_cases u : subB (frm (needsC c) o) U = true
      · rw [if_pos u, if_pos (a2 u)]; split <;> omega
      · rw [if_neg u]; split <;> split <;> omega
  unfold capV
  omega
theorem more_le (c : Col) {f : Nat} {V : Nat → Bool} (h : subB f V = true) : moreC c f ≤ capV c V := by
  have a := cut_le (needsC c ++ [((361 : Int), (f : Int))]) (nth c.rooms) V
  rw [elsewhere_app, if_pos h] at a
  unfold moreC capV
  omega
theorem more_mem {c : Col} (ok : OkCol c) (f : Nat) : ∃ V, subB f V = true ∧ moreC c f = capV c V := by
  obtain ⟨m, _, e⟩ := cut_mem (needsC c ++ [((361 : Int), (f : Int))]) (nth c.rooms)
  rw [elsewhere_app] at e
  have hb := (more_bound ok f).2
  have h1 := (roomsOf_bound (b := 60) ok.rooms6 m.testBit).1
  have h2 := elsewhere_nonneg (needs_nonneg ok) m.testBit
  have e' : moreC c f = roomsOf (nth c.rooms) m.testBit + (elsewhere (needsC c) m.testBit + if subB f m.testBit = true then 0 else 361) := e
  by_cases h : subB f m.testBit = true
  · rw [if_pos h] at e'
    exact ⟨m.testBit, h, by unfold capV; omega⟩
  · rw [if_neg h] at e'; omega
theorem tot_cap {c : Col} (hk : fitErr c = 0) (V : Nat → Bool) : totC c ≤ capV c V := by
  obtain ⟨q, _⟩ := fit_parts hk
  have ok := okCol_of q
  have a := fit_cut ok
  rw [fit_all hk] at a
  have b := cut_le (needsC c) (nth c.rooms) V
  unfold capV
  omega
/-- Rats from two sets of houses are no more than those from each of them. -/
theorem more_or {c : Col} (hk : fitErr c = 0) (f g : Nat) : moreC c (orN f g) + totC c ≤ moreC c f + moreC c g := by
  have ok := okCol_of (fit_parts hk).1
  obtain ⟨V, v1, v2⟩ := more_mem ok f
  obtain ⟨U, u1, u2⟩ := more_mem ok g
  have h1 := cap_sub ok V U
  have h2 := tot_cap hk (fun h => V h && U h)
  have h3 := more_le c (f := orN f g) (V := fun h => V h || U h) (subB_iff.2 fun j hj hb => by
    rw [orN_bit, Bool.or_eq_true] at hb
    show (V j || U j) = true
    rcases hb with hb | hb
    · rw [subB_iff.1 v1 j hj hb]; rfl
    · rw [subB_iff.1 u1 j hj hb, Bool.or_true])
  omega
theorem more_zero {c : Col} (hk : fitErr c = 0) : moreC c 0 = totC c := by
  have ok := okCol_of (fit_parts hk).1
  obtain ⟨m, _, e⟩ := cut_mem (needsC c) (nth c.rooms)
  have a := fit_cut ok
  rw [fit_all hk] at a
  have h1 := more_le c (f := 0) (V := m.testBit) (subB_iff.2 fun j hj hb => by simp at hb)
  have h2 := (more_bound ok 0).1
  rw [fit_all hk] at h2
  unfold capV at h1
  omega
/-- What can be in a house is what can be there more than what was caught. -/
theorem after_more {c : Col} (hk : fitErr c = 0) {h : Nat} (hh : h < c.rooms.length) : nth (afterC c) h = moreC c (leftC c h) - totC c := by
  have ok := okCol_of (fit_parts hk).1
  rw [after_nth c hh, most_more ok, fit_all hk]
theorem after_bound {c : Col} (hk : fitErr c = 0) {h : Nat} (hh : h < c.rooms.length) : 0 ≤ nth (afterC c) h ∧ nth (afterC c) h ≤ 360 := by
  have ok := okCol_of (fit_parts hk).1
  have a := more_bound ok (leftC c h)
  have b := fit_bound ok
  rw [after_more hk hh]
  rw [fit_all hk] at a b
  omega
theorem need_nth {c : Col} (hk : fitErr c = 0) {h : Nat} (hh : h < c.rooms.length) : nth (needC c) h = moreC c (needFrom c h) - totC c := by
  have ok := okCol_of (fit_parts hk).1
  have b1 : nth (needC c) h = mostC c (fitX c).all (needFrom c h) := by unfold needC needTo nth; simp [hh]
  rw [b1, most_more ok, fit_all hk]
/-- The houses near another one. -/
theorem near_only {c : Col} (ok : OkCol c) {h o : Nat} (hh : h < c.rooms.length) (hb : (nearC c h).testBit o = true) (h6 : o < 6) : o < c.rooms.length := by
  rw [nearC_bit hh h6] at hb
  unfold goesB goesI at hb
  rw [Bool.or_eq_true] at hb
  rcases hb with hb | hb
  · rw [anyB_ex] at hb
    obtain ⟨i, hi, e⟩ := hb
    have := ok.run i hi
    unfold joinsB at e
    simp at e
    omega
  · simp at hb; omega
theorem reach_one {c : Col} (ok : OkCol c) {h : Nat} (hh : h < c.rooms.length) : reachN c h 1 = nearC c h := by
  have h6 : h < 6 := by have := ok.houses.2; omega
  have hp : pw h < 64 := pw_lt h6
  have e1 : ∀ o, o ∈ members (pw h) ↔ o = h := fun o => by
    rw [mem_members, pw_bit]
    constructor
    · rintro ⟨_, e⟩; exact (by simpa using e : h = o).symm
    · rintro rfl; exact ⟨h6, by simp⟩
  have key : ∀ (l : List Nat) (a : Nat) (j : Nat), (reachAcc c a l).testBit j = (a.testBit j || l.any fun o => (nearC c o).testBit j) := by
    intro l
    induction l with
    | nil => intro a j; simp [reachAcc]
    | cons x l ih =>
      intro a j
      show (reachAcc c (orN a (nearC c x)) l).testBit j = _
      rw [ih, orN_bit, List.any_cons, Bool.or_assoc]
  refine Nat.eq_of_testBit_eq fun j => ?_
  show (reachAcc c (pw h) (members (pw h))).testBit j = _
  rw [key, Bool.eq_iff_iff, Bool.or_eq_true, List.any_eq_true, pw_bit]
  constructor
  · rintro (e | ⟨o, h1, h2⟩)
    · simp only [decide_eq_true_eq, beq_iff_eq] at e
      subst e
      rw [nearC_bit hh h6]
      unfold goesB goesI
      simp
    · rw [(e1 o).1 h1] at h2; exact h2
  · intro hb
    exact .inr ⟨h, (e1 h).2 rfl, hb⟩
theorem need_sum {c : Col} (hk : fitErr c = 0) (l : List Nat) (hl : ∀ o ∈ l, o < c.rooms.length) : ∀ k, k ≤ l.length → moreC c (needAcc c (l.take k)) - totC c ≤ sumN (fun i => nth (afterC c) (l.getD i 0)) k
  | 0, _ => by
    show moreC c 0 - totC c ≤ 0
    rw [more_zero hk]; omega
  | k + 1, h => by
    have h1 := need_sum hk l hl k (by omega)
    have hk1 : k < l.length := by omega
    have e : l.take (k + 1) = l.take k ++ [l.getD k 0] := by
      rw [List.take_succ_eq_append_getElem hk1, List.getD_eq_getElem?_getD, List.getElem?_eq_getElem hk1]; rfl
    have hm : l.getD k 0 < c.rooms.length := hl _ (by rw [List.getD_eq_getElem?_getD, List.getElem?_eq_getElem hk1]; exact List.getElem_mem hk1)
    have h2 := more_or hk (needAcc c (l.take k)) (leftC c (l.getD k 0))
    rw [sumN_succ, after_more hk hm, e, needAcc_snoc]
    omega
/-- What can be in a house in the next night, from what is near it. -/
theorem next_law {c : Col} (hk : fitErr c = 0) {h : Nat} (hh : h < c.rooms.length) :
    (∀ o ∈ members (nearC c h), o < c.rooms.length) ∧ (∀ o ∈ members (nearC c h), nth (afterC c) o ≤ nth (needC c) h) ∧
    nth (needC c) h ≤ sumN (fun i => nth (afterC c) ((members (nearC c h)).getD i 0)) (members (nearC c h)).length ∧ nth (needC c) h ≤ (ratsC c).2 - (ratsC c).1 ∧ 0 ≤ nth (needC c) h := by
  have ok := okCol_of (fit_parts hk).1
  have hm : ∀ o ∈ members (nearC c h), o < c.rooms.length := fun o ho => near_only ok hh (mem_members.1 ho).2 (mem_members.1 ho).1
  refine ⟨hm, fun o ho => ?_, ?_, ?_, ?_⟩
  · rw [need_nth hk hh, after_more hk (hm o ho)]
    have := (MoreCol.self c).more ok ok (f := leftC c o) (g := needFrom c h) (fun j hj => by unfold needFrom; rw [needAcc_bit]; exact ⟨o, ho, hj⟩)
    omega
  · rw [need_nth hk hh]
    have := need_sum hk (members (nearC c h)) hm _ (Nat.le_refl _)
    rw [List.take_length] at this
    exact this
  · rw [need_nth hk hh, rats_more ok, fit_all hk]
    have := (MoreCol.self c).more ok ok (f := needFrom c h) (g := unionN (leftC c)) (fun j hj => by
      unfold needFrom at hj
      rw [needAcc_bit] at hj
      obtain ⟨o, h1, h2⟩ := hj
      exact left_sub c (mem_members.1 h1).1 j h2)
    show _ ≤ moreC c (unionN (leftC c)) - totC c
    omega
  · rw [need_nth hk hh]
    have := (more_bound ok (needFrom c h)).1
    rw [fit_all hk] at this
    omega
/-- Where a trap was left open in the last night no rat is left. -/
theorem after_open {c : Col} (hk : fitErr c = 0) {h : Nat} (hh : h < c.rooms.length) (h0 : 0 < c.nights.length) (hf : nth (nthR c.nights (c.nights.length - 1)) h < nth c.traps h) : nth (afterC c) h = 0 := by
  have e : leftC c h = 0 := by
    have hff : fullB c h (c.nights.length - 1) = false := by
      unfold fullB
      rw [beq_eq_false_iff_ne]
      omega
    unfold leftC
    rw [if_pos ⟨hh, h0, hff⟩]
  rw [after_more hk hh, e, more_zero hk]; omega

section
variable {R traps : List Int} {rs : List (Int × Int)} {N : List (List Int)}
/-- A further night in which nothing was caught, with traps everywhere. -/
abbrev emptyC (R traps : List Int) (rs : List (Int × Int)) (N : List (List Int)) : Col := ⟨R, traps, rs, N ++ [List.replicate R.length 0]⟩
theorem nth_zeros (n i : Nat) : nth (List.replicate n (0 : Int)) i = 0 := by
  unfold nth; rw [List.getD_eq_getElem?_getD, List.getElem?_replicate]; split <;> rfl
theorem empty_check (hk : checkC ⟨R, traps, rs, N⟩ = 0) (hN : N.length < 6) : checkC (emptyC R traps rs N) = 0 := by
  have k := okCol_of hk
  have app : ∀ i, i < N.length → nthR (N ++ [List.replicate R.length 0]) i = nthR N i := fun i hi => nthR_app hi
  have lst : nthR (N ++ [List.replicate R.length 0]) N.length = List.replicate R.length 0 := nthR_new _ _
  refine check_of_ok ⟨k.houses, k.traps, k.runs, by show (N ++ [_]).length ≤ 6; simp; omega, fun i hi => ?_, k.room, k.trap, fun i j hi hj => ?_, k.run, k.differ, k.once⟩
  · have hi' : i < (N ++ [List.replicate R.length (0 : Int)]).length := hi
    show (nthR (N ++ [List.replicate R.length 0]) i).length = R.length
    by_cases e : i < N.length
    · rw [app i e]; exact k.row i e
    · obtain rfl : i = N.length := by simp at hi'; omega
      rw [lst]; simp
  · have hi' : i < (N ++ [List.replicate R.length (0 : Int)]).length := hi
    show 0 ≤ nth (nthR (N ++ [List.replicate R.length 0]) i) j ∧ nth (nthR (N ++ [List.replicate R.length 0]) i) j ≤ nth traps j
    by_cases e : i < N.length
    · rw [app i e]; exact k.night i j e hj
    · obtain rfl : i = N.length := by simp at hi'; omega
      rw [lst, nth_zeros]
      exact ⟨Int.le_refl _, (k.trap j hj).1⟩
theorem empty_org (z : List Int) : ∀ k h, k ≤ N.length → org ⟨R, traps, rs, N ++ [z]⟩ k h = org ⟨R, traps, rs, N⟩ k h
  | 0, h, _ => rfl
  | k + 1, h, hk => by
    have ih : org ⟨R, traps, rs, N ++ [z]⟩ k = org ⟨R, traps, rs, N⟩ k := funext fun h => empty_org z k h (by omega)
    have hf : ∀ f, fullB ⟨R, traps, rs, N ++ [z]⟩ f k = fullB ⟨R, traps, rs, N⟩ f k := fun f => by
      unfold fullB
      show (nth (nthR (N ++ [z]) k) f == _) = (nth (nthR N k) f == _)
      rw [nthR_app (by omega)]
    show (if h < R.length then orgStep ⟨R, traps, rs, N ++ [z]⟩ k (org ⟨R, traps, rs, N ++ [z]⟩ k) (members (nearC ⟨R, traps, rs, N⟩ h)) else 0) = (if h < R.length then orgStep ⟨R, traps, rs, N⟩ k (org ⟨R, traps, rs, N⟩ k) (members (nearC ⟨R, traps, rs, N⟩ h)) else 0)
    rw [ih]
    unfold orgStep
    simp only [hf]
theorem empty_needs (z : List Int) : needsC ⟨R, traps, rs, N ++ [z]⟩ = needsC ⟨R, traps, rs, N⟩ ++ (List.range R.length).map fun h => (nth z h, (org ⟨R, traps, rs, N⟩ N.length h : Int)) := by
  have up : ∀ k, k ≤ N.length → needsUp ⟨R, traps, rs, N ++ [z]⟩ k = needsUp ⟨R, traps, rs, N⟩ k := by
    intro k
    induction k with
    | zero => intro _; rfl
    | succ k ih =>
      intro hk
      rw [needsUp_succ, needsUp_succ, ih (by omega)]
      congr 1
      unfold needRow
      refine List.map_congr_left fun h _ => ?_
      show (nth (nthR (N ++ [z]) k) h, (org ⟨R, traps, rs, N ++ [z]⟩ k h : Int)) = (nth (nthR N k) h, (org ⟨R, traps, rs, N⟩ k h : Int))
      rw [nthR_app (by omega), empty_org z k h (by omega)]
  have hl : (N ++ [z]).length = N.length + 1 := by simp
  show needsUp ⟨R, traps, rs, N ++ [z]⟩ (N ++ [z]).length = needsUp ⟨R, traps, rs, N⟩ N.length ++ _
  rw [hl, needsUp_succ, up N.length (Nat.le_refl _)]
  congr 1
  unfold needRow
  refine List.map_congr_left fun h _ => ?_
  show (nth (nthR (N ++ [z]) N.length) h, (org ⟨R, traps, rs, N ++ [z]⟩ N.length h : Int)) = _
  rw [nthR_new, empty_org z N.length h (Nat.le_refl _)]
theorem sum_app0 (nl zl : List (Int × Int)) (F : Int × Int → Int) (h0 : ∀ k, k < zl.length → F (nthP zl k) = 0) : sumN (fun o => F (nthP (nl ++ zl) o)) (nl ++ zl).length = sumN (fun o => F (nthP nl o)) nl.length := by
  rw [List.length_append, sumN_append]
  have a : sumN (fun i => F (nthP (nl ++ zl) (nl.length + i))) zl.length = 0 := by
    rw [← sumN_zero zl.length]
    refine sumN_congr fun i hi => ?_
    have : nthP (nl ++ zl) (nl.length + i) = nthP zl i := by
      unfold nthP; rw [List.getD_eq_getElem?_getD, List.getD_eq_getElem?_getD, List.getElem?_append_right (by omega), Nat.add_sub_cancel_left]
    rw [this]; exact h0 i hi
  rw [a, Int.add_zero]
  exact sumN_congr fun i hi => by
    have : nthP (nl ++ zl) i = nthP nl i := by unfold nthP; rw [List.getD_eq_getElem?_getD, List.getD_eq_getElem?_getD, List.getElem?_append_left hi]
    rw [this]
theorem empty_law (hk : fitErr ⟨R, traps, rs, N⟩ = 0) (hN : N.length < 6) (ht : ∀ h, h < R.length → nth traps h ≠ 0) :
    fitErr (emptyC R traps rs N) = 0 ∧ totC (emptyC R traps rs N) = totC ⟨R, traps, rs, N⟩ ∧ (∀ h, leftC (emptyC R traps rs N) h = 0) := by
  obtain ⟨q, _⟩ := fit_parts hk
  have ok := okCol_of q
  have q' := empty_check q hN
  have ok' := okCol_of q'
  obtain ⟨zl, hzl⟩ : ∃ zl, ((List.range R.length).map fun h => (nth (List.replicate R.length (0 : Int)) h, (org ⟨R, traps, rs, N⟩ N.length h : Int))) = zl := ⟨_, rfl⟩
  have hz0 : ∀ k, k < zl.length → (nthP zl k).1 = 0 := fun k hkz => by
    rw [← hzl] at hkz ⊢
    have hk' : k < R.length := by simpa using hkz
    unfold nthP
    simp [hk', nth_zeros]
  have hn : needsC (emptyC R traps rs N) = needsC ⟨R, traps, rs, N⟩ ++ zl := by rw [← hzl]; exact empty_needs _
  have ht1 : totC (emptyC R traps rs N) = totC ⟨R, traps, rs, N⟩ := by
    show sumN (rats (needsC (emptyC R traps rs N))) (needsC (emptyC R traps rs N)).length = sumN (rats (needsC ⟨R, traps, rs, N⟩)) _
    rw [hn]
    exact sum_app0 _ zl (fun q => q.1) hz0
  have he : ∀ V, elsewhere (needsC (emptyC R traps rs N)) V = elsewhere (needsC ⟨R, traps, rs, N⟩) V := fun V => by
    unfold elsewhere
    rw [hn]
    exact sum_app0 _ zl (fun q => if subB q.2.toNat V = true then 0 else q.1) (fun k hkz => by
      show (if _ then (0 : Int) else (nthP zl k).1) = 0
      rw [hz0 k hkz]; split <;> rfl)
  refine ⟨?_, ht1, fun h => ?_⟩
  · rw [fit_err ok' q', ht1, if_neg]
    obtain ⟨m, _, e⟩ := cut_mem (needsC (emptyC R traps rs N)) (nth (emptyC R traps rs N).rooms)
    rw [e, he]
    have := tot_cap hk m.testBit
    unfold capV at this
    show ¬ roomsOf (nth R) m.testBit + _ < _
    have h2 : roomsOf (nth (⟨R, traps, rs, N⟩ : Col).rooms) m.testBit = roomsOf (nth R) m.testBit := rfl
    omega
  · unfold leftC
    have hl : (emptyC R traps rs N).nights.length = N.length + 1 := by simp [emptyC]
    by_cases hh : h < R.length
    · have hff : fullB (emptyC R traps rs N) h ((emptyC R traps rs N).nights.length - 1) = false := by
        rw [hl]
        unfold fullB
        show (nth (nthR (N ++ [List.replicate R.length 0]) N.length) h == nth traps h) = false
        rw [nthR_new, nth_zeros, beq_eq_false_iff_ne]
        have := ht h hh
        omega
      rw [if_pos ⟨hh, by omega, hff⟩]
    · have a : ∀ k, org (emptyC R traps rs N) k h = 0 := fun k => by
        cases k with
        | zero => exact if_neg hh
        | succ k => exact if_neg hh
      rw [a]; split <;> rfl
theorem unionTo_zero (f : Nat → Nat) (h : ∀ j, f j = 0) : ∀ k, unionTo f k = 0
  | 0 => rfl
  | k + 1 => by unfold unionTo; rw [unionTo_zero f h k, h k]; rfl
theorem best_nil (all : Nat) (q : Nat → Bool) (h0 : q 0 = true) : bestF fewB all q = [] := by
  have hs : subsetN 0 all = true := by unfold subsetN; simp
  have key : ∀ k, bestTo fewB all q (k + 1) = (true, []) := by
    intro k
    induction k with
    | zero =>
      show bestStep fewB all q (false, []) 0 = _
      unfold bestStep
      rw [hs, h0]
      rfl
    | succ k ih =>
      rw [bestTo_succ, ih]
      unfold bestStep
      have hb : fewB (natsI (members (k + 1))) [] = false := by
        unfold fewB
        cases e : natsI (members (k + 1)) with
        | nil => rfl
        | cons a l => simp
      split
      · rw [hb]; rfl
      · rfl
  show (bestTo fewB all q 64).2 = []
  rw [key 63]
theorem growN_zero (p : Int) : ∀ k, growN p 0 k = 0
  | 0 => rfl
  | k + 1 => by unfold growN; rw [growN_zero p k]; simp
/-- With traps in all houses, and a night in which none caught anything, no rat is left. -/
theorem empty_rest (hk : fitErr ⟨R, traps, rs, N⟩ = 0) (hN : N.length < 6) (ht : ∀ h, h < R.length → nth traps h ≠ 0) :
    ratsC (emptyC R traps rs N) = ((ratsC ⟨R, traps, rs, N⟩).1, (ratsC ⟨R, traps, rs, N⟩).1) ∧ (∀ h, h < R.length → nth (afterC (emptyC R traps rs N)) h = 0) ∧ baitErr (emptyC R traps rs N) 0 = 0 ∧ baitsC (emptyC R traps rs N) 0 = [] ∧
    growErr (emptyC R traps rs N) 100 20 = 0 ∧ growC (emptyC R traps rs N) 100 20 = 0 := by
  obtain ⟨q, _⟩ := fit_parts hk
  have ok := okCol_of q
  obtain ⟨hf, h1, h2⟩ := empty_law hk hN ht
  have q' := (fit_parts hf).1
  have ok' := okCol_of q'
  have hz := more_zero hf
  have hu : unionN (leftC (emptyC R traps rs N)) = 0 := unionTo_zero _ h2 6
  have e1 : ratsC (emptyC R traps rs N) = ((ratsC ⟨R, traps, rs, N⟩).1, (ratsC ⟨R, traps, rs, N⟩).1) := by
    rw [rats_more ok', rats_more ok, hu, hz, fit_all hf, fit_all hk, h1]
  have e2 : ∀ h, h < R.length → nth (afterC (emptyC R traps rs N)) h = 0 := fun h hh => by
    have := after_more hf (h := h) hh
    rw [h2 h, hz] at this
    omega
  have e3 : posC (emptyC R traps rs N) = 0 := by
    have key : ∀ k, k ≤ R.length → posTo (afterC (emptyC R traps rs N)) k = 0 := by
      intro k
      induction k with
      | zero => intro _; rfl
      | succ k ih =>
        intro hkk
        unfold posTo
        rw [e2 k (by omega), if_neg (by omega)]
        exact ih (by omega)
    exact key _ (Nat.le_refl _)
  refine ⟨e1, e2, ?_, ?_, ?_, ?_⟩
  · unfold baitErr; rw [if_pos q', if_pos (by rfl), hf]
  · unfold baitsC
    refine best_nil _ _ ?_
    unfold coverB subsetN
    rw [e3]; simp
  · unfold growErr; rw [if_pos q', if_pos ⟨rfl, rfl⟩, hf]
  · unfold growC
    rw [e1, Int.sub_self]
    exact growN_zero _ _
end
end Go.Proofs.Ytnhifinfjfpoiaa

namespace Go.Proofs.Ytnhifinfjfpoiaa
open Go.RowKit
theorem build_one (a : Option Addr) (n c : Nat) (w : World) : (Instr.buildSlice 24 1 #[(0, .slice a n c)]).run Try.prog w = .ok (.slice (some ⟨w.heap.size, 0, none⟩) 1 1) (w.alloc (.cells #[.slice a n c] 22)) := by
  simp [go_sem]
section
variable {P : Program} {o : Oper} {a : Act} {w w' : World} {K : Act → World → Prop} {Q : Exit → Act → World → Prop}
theorem op_val {v : Value} (h : (execOp a.eval o).run P w = .ok (.value v) w') (hk : K (a.put o.dst v) w') : Oper.wp P o a w K Q := by
  unfold Oper.wp; rw [h]; exact hk
theorem op_done (h : (execOp a.eval o).run P w = .ok .skip w') (hk : K (a.put o.dst undef) w') : Oper.wp P o a w K Q := by
  unfold Oper.wp; rw [h]; exact hk
theorem op_ent {f : FuncId} {args : Array Value} (h : (execOp a.eval o).run P w = .ok (.enter f args) w') (hc : Calls P f args w' fun e w'' => ∃ v, e = .returned v ∧ K (a.put o.dst v) w'') : Oper.wp P o a w K Q := by
  unfold Oper.wp; rw [h]
  exact hc.mono fun e w'' ⟨v, he, hk⟩ => by subst he; exact hk
end
end Go.Proofs.Ytnhifinfjfpoiaa

namespace Go.Proofs.Ytnhifinfjfpoiaa
open Go.RowKit
set_option linter.unusedVariables false
set_option linter.unusedSimpArgs false

theorem store_col (W : World) (b ty : Nat) (x0 x1 x2 x3 : Value) (a0 a1 a2 a3 : Option Addr) (n0 c0 n1 c1 n2 c2 n3 c3 : Nat) (h : W.heap[b]? = some (.cells #[x0, x1, x2, x3] ty (0, 0))) :
    (Instr.storeAt 26 (.pointer (some ⟨b, 0, none⟩)) (.agg #[.slice a0 n0 c0, .slice a1 n1 c1, .slice a2 n2 c2, .slice a3 n3 c3])).run Try.prog W =
      .ok () ((((W.setCell ⟨b, 0, none⟩ (.slice a0 n0 c0)).setCell ⟨b, 1, none⟩ (.slice a1 n1 c1)).setCell ⟨b, 2, none⟩ (.slice a2 n2 c2)).setCell ⟨b, 3, none⟩ (.slice a3 n3 c3)) := by
  have h1 := heap_setCell_same W b 0 _ _ (.slice a0 n0 c0) h
  have h2 := heap_setCell_same _ b 1 _ _ (.slice a1 n1 c1) h1
  have h3 := heap_setCell_same _ b 2 _ _ (.slice a2 n2 c2) h2
  have z0 := (four_at h).1
  have z1 := (four_at h1).2.1
  have z2 := (four_at h2).2.2.1
  have z3 := (four_at h3).2.2.2
  have f0 := frozen_of_row _ b 0 _ _ h
  have f1 := frozen_of_row _ b 1 _ _ h1
  have f2 := frozen_of_row _ b 2 _ _ h2
  have f3 := frozen_of_row _ b 3 _ _ h3
  clear h h1 h2 h3
  simp (maxSteps := 3000000) [go_sem, z0, z1, z2, z3, f0, f1, f2, f3]
theorem op_store {P : Program} {o : Oper} {a : Act} {w w' : World} {K : Act → World → Prop} {Q : Exit → Act → World → Prop} {t : TypeId} {x y : Operand} {p v : Value} (ho : o.op = .store t x y) (hx : a.eval x = p) (hy : a.eval y = v) (hs : (Instr.storeAt t p v).run P w = .ok () w')
    (hk : K (a.put o.dst undef) w') : Oper.wp P o a w K Q := by
  refine op_done (w' := w') ?_ hk
  simp [execOp, ho, hx, hy, hs, Result.andThen]
theorem op_build {P : Program} {o : Oper} {a : Act} {w w' : World} {K : Act → World → Prop} {Q : Exit → Act → World → Prop} {t : TypeId} {x : Operand} {u v : Value} (ho : o.op = .buildSlice t 1 #[(0, x)]) (hx : a.eval x = u) (hs : (Instr.buildSlice t 1 #[(0, u)]).run P w = .ok v w')
    (hk : K (a.put o.dst v) w') : Oper.wp P o a w K Q := by
  refine op_val (v := v) (w' := w') ?_ hk
  simp [execOp, ho, hx, hs, Result.andThen]
end Go.Proofs.Ytnhifinfjfpoiaa
