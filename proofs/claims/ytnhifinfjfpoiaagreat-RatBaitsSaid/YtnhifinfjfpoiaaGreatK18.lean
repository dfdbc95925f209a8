/- Contract of the reference's choose. Contracts of the reference's where, Baits and Apart. Contracts of the reference's Baits and Apart. The reference's Reaches, Baits and Apart where they refuse; both sides' Reaches, Baits and Apart at any colony. -/
import Derived.Test.YtnhifinfjfpoiaaGreatK17
import Derived.Test.YtnhifinfjfpoiaaGreatK15
import Derived.Test.YtnhifinfjfpoiaaGreatK05
import Derived.Test.YtnhifinfjfpoiaaGreatK08
namespace Go.Proofs.YtnhifinfjfpoiaaGreat
open Go.RowKit
set_option linter.unusedVariables false
set_option linter.unusedSimpArgs false

section
variable {w W : World} {ps : List Part}
theorem PW.newMade (h : PW w W ps) : PW w (W.alloc (.cells #[] 3)) (ps ++ [pRow W.heap.size 3 1 0 (.slice (some ⟨W.heap.size, 0, none⟩) 0 0) (intsV [])]) :=
  h.push _ ((Below.refl _ _).alloc (Nat.le_refl _) _) (World.ownsRow_made W #[] 0 (Nat.le_refl _) (Nat.zero_le _) rfl) (fun k hk => by
    have hk' : W.heap.size = k := Option.some.inj hk
    subst hk'
    simp)
/-- A list that may be empty appended to a row of one's own. -/
theorem PW.step_list0 (h : PW w W ps) (i : Nat) {B n g0 q0 : Nat} (xs : List Int) (hi : ps[i]? = some (pRow B 3 1 n (.slice (some ⟨g0, 0, none⟩) n q0) (intsV xs))) (hB : B ≤ W.heap.size)
    (ad : Option Addr) (m c : Nat) (l : List Int) (hlm : l.length = m) (hl : IsInts W W.heap.size (.slice ad m c) l) (hn : n + m ≤ 1000)
    {ops : Array Oper} {o : Oper} {a : Act} {Q : Exit → Act → World → Prop} {K : Act → World → Prop} {E : Prop} (hgd : o.guard = none) (s x : Operand) (ho : o.op = .call { callee := .builtin .append, args := #[s, x], argTypes := #[22, 22] }) (hs : a.eval s = .slice (some ⟨g0, 0, none⟩) n q0) (hx : a.eval x = .slice ad m c)
    (hk : ∀ g cap w', PW w w' (ps.set i (pRow B 3 1 (n + m) (.slice (some ⟨g, 0, none⟩) (n + m) cap) (intsV (xs ++ l)))) → W.heap.size ≤ w'.heap.size → K (a.put o.dst (.slice (some ⟨g, 0, none⟩) (n + m) cap)) w') :
    if Region.wanted o (yielded ops a.tmps) = true then Oper.wp Tryz.prog o a W K Q else E := by
  subst hlm
  obtain ⟨i0, hif, hz0, hz1, hz2⟩ := info_parts infoInt
  obtain ⟨xa, xc, ex, hcap, _, hcell⟩ := hl.open
  have e1 : ad = xa := by injection ex
  have e2 : c = xc := by injection ex
  subst e1
  subst e2
  have happ : intsV (xs ++ l) = intsV xs ++ intsV l := by simp [intsV]
  refine step_append_or (w := W) hgd s x 22 ho B 3 i0 (.int .i64 0) 1 8 Tryz.underlying22 hif hz0 hz1 hz2 rfl (by decide) g0 n q0 (intsV xs) hs (h.at i hi) ad l.length c hcap (intsV l) hx (by simp [intsV]) (fun h0 => ?_) (fun u hu => by obtain ⟨y, _, rfl⟩ := List.mem_map.1 hu; rfl) (by unfold maxLen; omega) (by omega) hB (fun g cap w' ho hg hor => ?_)
  · obtain ⟨b, off, e, hb, _⟩ := hcell 0 h0
    refine ⟨b, off, e, fun j u hu => ?_⟩
    have hj : j < l.length := by have := (List.getElem?_eq_some_iff.1 hu).1; simpa [intsV] using this
    obtain ⟨b', off', e', hb', m⟩ := hcell j hj
    rw [e] at e'
    cases e'
    have ha : ((⟨b, off, none⟩ : Addr).add j) = ⟨b, off + j, none⟩ := by unfold Addr.add; split <;> simp_all
    rw [ha, m]
    simp [intsV, hj] at hu
    rw [← hu, nth_eq hj]
  · refine hk g cap w' (h.grown i hi (by rw [happ]; exact ho) hg ?_) hg.size
    rcases hor with e | e
    · exact .inl (by rw [e]; rfl)
    · exact .inr e
end
def Box4c (b : Nat) (x0 x1 x2 x3 : Value) (W : World) : Prop := W.cell? ⟨b, 0, none⟩ = some x0 ∧ W.cell? ⟨b, 1, none⟩ = some x1 ∧ W.cell? ⟨b, 2, none⟩ = some x2 ∧ W.cell? ⟨b, 3, none⟩ = some x3
theorem Box4c.below {b : Nat} {x0 x1 x2 x3 : Value} {W W' : World} (h : Box4c b x0 x1 x2 x3 W) (hb : Below W.heap.size W W') : Box4c b x0 x1 x2 x3 W' := by
  obtain ⟨p0, p1, p2, p3⟩ := h
  have key : ∀ (b o : Nat) (v : Value), W.cell? ⟨b, o, none⟩ = some v → W'.cell? ⟨b, o, none⟩ = some v := fun b o v e => (hb.cell (p := ⟨b, o, none⟩) (block_lt_of_cell e)).trans e
  exact ⟨key _ _ _ p0, key _ _ _ p1, key _ _ _ p2, key _ _ _ p3⟩
def ChoosePost (n : Nat) (T : List Nat → Bool) (m : Nat) (l : List Nat) (w : World) (e : Ending) (w' : World) : Prop :=
  ∃ v b, e = .returned (.tuple #[v, .bool b]) ∧ (∀ x, chooseC n T m l = some x → b = true ∧ IsInts w' w'.heap.size v (natsI x)) ∧ (chooseC n T m l = none → b = false) ∧ Below w.heap.size w w'
theorem fromOf_last {l : List Nat} (h : 0 < l.length) : fromOf l = l[l.length - 1] + 1 := by
  unfold fromOf
  rw [List.getLast?_eq_getElem?, List.getElem?_eq_getElem (by omega)]
theorem fromOf_nil {l : List Nat} (h : l.length = 0) : fromOf l = 0 := by
  have : l = [] := List.length_eq_zero_iff.1 h
  subst this; rfl
/-- The test, as choose asks it. -/
def testC (c : Col) (R : Nat) (A : Nat → Bool) (ap : Bool) (l : List Nat) : Bool := if ap = true then sepB c R A l else covB c R A l

set_option maxRecDepth 100000 in
set_option maxHeartbeats 8000000 in
theorem choose_any (c : Col) (ok : OkCol c) (R g cap : Nat) (hR : R ≤ 3) (A : Nat → Bool) (ap : Bool) : ∀ (m : Nat) (r t u n : Value) (lv : Value) (l : List Nat) (w : World) (hc : ColAt w w.heap.size r t u n c) (hA : BlBlk w g c.rooms.length A) (hl : IsInts w w.heap.size lv (natsI l)) (hin : ∀ x, x ∈ l → x < c.rooms.length) (hlen : l.length + m ≤ 6),
    Calls Tryz.prog 56 #[.agg #[r, t, u, n], .int .i64 R, .slice (some ⟨g, 0, none⟩) c.rooms.length cap, .bool ap, lv, .int .i64 m] w (ChoosePost c.rooms.length (testC c R A ap) m l w) := by
  intro m
  induction m with
  | zero =>
    intro r t u n lv l w hc hA hl hin hlen
    have hBW : Below w.heap.size w (w.alloc (.cells #[r, t, u, n] 32)) := (Below.refl _ w).alloc (Nat.le_refl _) _
    have HC := Lib.hid (hc.on hBW)
    have HA := Lib.hid (hA.on hBW)
    have HL := Lib.hid ((hl.below hBW (Nat.le_refl _)).mono hBW.size)
    obtain ⟨hr, htr, hu, hn⟩ := hc
    obtain ⟨ar, cr, rfl, _⟩ := hr.open
    obtain ⟨at_, ct, rfl, _⟩ := htr.open
    obtain ⟨au, cu, rfl, _⟩ := hu.open
    obtain ⟨an, cn, rfl, _⟩ := hn.open
    obtain ⟨al, cl, rfl, _, _, _⟩ := hl.open
    have HB := Lib.hid hBW; have HIN := Lib.hid hin; have HOK := Lib.hid ok
    have hz := chooseC_zero c.rooms.length (testC c R A ap) l
    have HZ := Lib.hid hz
    rw [natsI_len] at *
    clear hr htr hu hn hBW hA hl hin hz ok
    cases ap
    · go_enter Tryz.func56, Tryz.ntmps56
      go_wp2_with fail
      refine (covers_any c _ _ _ _ R g cap A (.slice al l.length cl) l _ HC.out HOK.out hR HA.out HL.out HIN.out).mono ?_
      rintro e w5 ⟨rfl, hb5⟩
      have HP := Lib.hid (And.intro ((HL.out.below hb5 (Nat.le_refl _)).mono hb5.size) (HB.out.trans (hb5.mono HB.out.size)))
      clear hb5
      go_wp2_with fail
      go_ret2
      refine ⟨_, _, rfl, fun x hx => ?_, fun hx => ?_, HP.out.2⟩
      · rw [HZ.out] at hx
        by_cases q : testC c R A false l = true
        · rw [if_pos q] at hx
          cases hx
          exact ⟨q, HP.out.1⟩
        · rw [if_neg q] at hx; cases hx
      · rw [HZ.out] at hx
        by_cases q : testC c R A false l = true
        · rw [if_pos q] at hx; cases hx
        · exact Bool.eq_false_iff.2 q
    · cases hq : testC c R A true l
      all_goals
        have hq2 : sepB c R A l = testC c R A true l := rfl
        have HQ := Lib.hid hq
        rw [hq] at hq2
        have HQ2 := Lib.hid hq2
        clear hq hq2
        go_enter Tryz.func56, Tryz.ntmps56
        go_wp2_with fail
        refine (separate_any c _ _ _ _ R g cap A (.slice al l.length cl) l _ HC.out HOK.out hR HA.out HL.out HIN.out).mono ?_
        rintro e w5 ⟨rfl, hb5⟩
        have HP := Lib.hid (And.intro ((HL.out.below hb5 (Nat.le_refl _)).mono hb5.size) (HB.out.trans (hb5.mono HB.out.size)))
        clear hb5
        rw [HQ2.out]
        go_wp2_with fail
        go_ret2
        refine ⟨_, _, rfl, fun x hx => ?_, fun hx => ?_, HP.out.2⟩
        · rw [HZ.out, HQ.out] at hx
          first
            | (cases hx; exact ⟨rfl, HP.out.1⟩)
            | (simp at hx)
        · rw [HZ.out, HQ.out] at hx
          all_goals first
            | rfl
            | (simp at hx)
  | succ m ih =>
    intro r t u n lv l w hc hA hl hin hlen
    have hBW : Below w.heap.size w (w.alloc (.cells #[r, t, u, n] 32)) := (Below.refl _ w).alloc (Nat.le_refl _) _
    have HC := Lib.hid (hc.on hBW)
    have HA := Lib.hid (hA.on hBW)
    have HL := Lib.hid ((hl.below hBW (Nat.le_refl _)).mono hBW.size)
    have hx : (w.alloc (.cells #[r, t, u, n] 32)).heap[w.heap.size]? = some (.cells #[r, t, u, n] 32 (0, 0)) := blk _ _ _ _ rfl
    obtain ⟨hr, htr, hu, hn⟩ := hc
    obtain ⟨ar, cr, rfl, _⟩ := hr.open
    obtain ⟨at_, ct, rfl, _⟩ := htr.open
    obtain ⟨au, cu, rfl, _⟩ := hu.open
    obtain ⟨an, cn, rfl, _⟩ := hn.open
    obtain ⟨al, cl, rfl, _, _, _⟩ := hl.open
    have n6 := ok.houses.2
    have HB := Lib.hid hBW; have HIN := Lib.hid hin; have HOK := Lib.hid ok; have HX := Lib.hid hx; have HIH := Lib.hid ih
    rw [natsI_len] at *
    have hm2 : ((m : Int) + 1 == 0) = false := beq_eq_false_iff_ne.2 (by omega)
    have hwm : IntKind.i64.wrap (m : Int) = (m : Int) := by rw [IntKind.wrap_i64]; omega
    clear hr htr hu hn hBW hA hl hin ok hx ih
    go_enter Tryz.func56, Tryz.ntmps56
    go_upto_region 3 with (fail)
    obtain ⟨W1, hW1⟩ : ∃ W1, w.alloc (.cells #[.slice ar c.rooms.length cr, .slice at_ c.traps.length ct, .slice au c.runs.length cu, .slice an c.nights.length cn] 32) = W1 := ⟨_, rfl⟩
    rw [hW1] at HC HB HX HA HL ⊢
    clear hW1 hm2
    have HLC : Hid (∀ W, Below W1.heap.size W1 W → ∀ k (hk : k < l.length), ∃ bl ol, al = some ⟨bl, ol, none⟩ ∧ W.cell? ⟨bl, ol + k, none⟩ = some (.int .i64 ((l[k] : Nat) : Int))) := fun W hW k hk => by
      have hlw := (HL.out.below hW (Nat.le_refl _)).mono hW.size
      obtain ⟨xl, yl, el, _, _, hcl⟩ := hlw.open
      rw [natsI_len] at hcl el
      obtain ⟨bl, ol, e9, hbl, m1⟩ := hcl k hk
      have e10 : al = xl := by injection el
      subst e10
      refine ⟨bl, ol, e9, ?_⟩
      rw [m1, natsI_nth hk]
    obtain ⟨fr, hfr⟩ : ∃ fr, fromOf l = fr := ⟨_, rfl⟩
    have hfn : fr ≤ c.rooms.length := by
      rw [← hfr]
      rcases Nat.eq_zero_or_pos l.length with h0 | h0
      · rw [fromOf_nil h0]; omega
      · rw [fromOf_last h0]; exact HIN.out _ (List.getElem_mem (by omega))
    have HFR := Lib.hid hfr
    clear hfr
    go_cut [14] (fun s14 wx => s14 = .int .i64 0 ∧ W1 = wx)
    case first =>
      go_wp2_with fail
      go_meet
      exact ⟨rfl, rfl⟩
    case rest =>
    obtain ⟨rfl, rfl⟩ := hcut
    go_step
    go_step
    go_cut [14] (fun s14 wx => s14 = .int .i64 fr ∧ W1 = wx)
    case first =>
      by_cases hl0 : l.length = 0
      · have hfz : fr = 0 := by rw [← HFR.out]; exact fromOf_nil hl0
        subst hfz
        go_wp2_with fail
        go_meet
        exact ⟨rfl, rfl⟩
      · obtain ⟨p, hp⟩ : ∃ p, l.length = p + 1 := ⟨l.length - 1, by omega⟩
        obtain ⟨bl, ol, eal, m1⟩ := HLC.out W1 (Below.refl _ _) p (by omega)
        obtain ⟨x, hx⟩ : ∃ x, l[p]'(by omega) = x := ⟨_, rfl⟩
        have hxn := HIN.out x (by rw [← hx]; exact List.getElem_mem (by omega))
        have hfx : fr = x + 1 := by
          rw [← HFR.out, fromOf_last (by omega), ← hx]
          have e : l.length - 1 = p := by omega
          simp only [e]
        rw [hx] at m1
        subst hfx
        subst eal
        clear hx
        have hwp : (l.length : Int) - 1 = (p : Int) := by omega
        have hpi : (p : Int) < l.length := by omega
        have h6 : (l.length : Int) ≤ 6 := by omega
        have h1 : (0 : Int) < l.length := by omega
        go_wp2_with fail
        go_meet
        exact ⟨by go_num, rfl⟩
    case rest =>
    obtain ⟨rfl, rfl⟩ := hcut
    have HTC : Hid (∀ x, testC c R A ap x = testC c R A ap x) := fun _ => rfl
    go_wp2_with fail
    go_loopw [15] (fun i wr => ∃ h : Nat, fr ≤ h ∧ h ≤ c.rooms.length ∧ i = .int .i64 h ∧ Hid (chooseTo c.rooms.length (testC c R A ap) m l h = none ∧ Below W1.heap.size W1 wr)) (fun i _ => c.rooms.length - (intOf i).toNat)
    case atStart => exact ⟨fr, Nat.le_refl _, hfn, rfl, chooseTo_from _ _ _ _ _ (by rw [HFR.out]; exact Nat.le_refl _), Below.refl _ _⟩
    case round =>
      obtain ⟨h, hf, hh, rfl, HR⟩ := hrel
      obtain ⟨q0, q1, q2, q3⟩ := four_of (blk_on HX.out HR.out.2)
      by_cases hlt : h < c.rooms.length
      · have hhi : (h : Int) < c.rooms.length := by omega
        have HC0 : Hid (Box4c w.heap.size (.slice ar c.rooms.length cr) (.slice at_ c.traps.length ct) (.slice au c.runs.length cu) (.slice an c.nights.length cn) wr) := ⟨q0, q1, q2, q3⟩
        have HLw := Lib.hid ((HL.out.below HR.out.2 (Nat.le_refl _)).mono HR.out.2.size)
        go_upto_region 9 with (fail)
        clear q0 q1 q2 q3
        go_cut [16, 17] (fun s16 s17 wx => ∃ v b, s16 = v ∧ s17 = .bool b ∧ Hid ((∀ x, chooseC c.rooms.length (testC c R A ap) m (l ++ [h]) = some x → b = true ∧ IsInts wx wx.heap.size v (natsI x)) ∧ (chooseC c.rooms.length (testC c R A ap) m (l ++ [h]) = none → b = false) ∧ Below W1.heap.size W1 wx))
        case first =>
          have HD := Lib.hid (PW.start wr).drew
          have hC : Box4c w.heap.size (.slice ar c.rooms.length cr) (.slice at_ c.traps.length ct) (.slice au c.runs.length cu) (.slice an c.nights.length cn) wr.drew := HC0.out.below HD.out.low
          obtain ⟨wd, hwd⟩ : ∃ wd, wr.drew = wd := ⟨_, rfl⟩
          refine wp_region_noPanic ?_
          refine anyL_start (S := Till [] (Box4c w.heap.size (.slice ar c.rooms.length cr) (.slice at_ c.traps.length ct) (.slice au c.runs.length cu) (.slice an c.nights.length cn))) (by kernel_rfl) (fun _ => hC) (fun hT => ?_)
          clear hT
          rw [hwd] at HD hC ⊢
          clear hwd
          refine takeL0 (i := 1) (d := 60) (v := ?_) rfl rfl (by kernel_rfl) (by kernel_rfl) (by kernel_rfl) (by kernel_rfl) (fun _ _ _ _ _ h => h) (by rfl) ?_ (fun _ => hC) ?_
          rotate_left
          · intro w
            go_simp
            try with_reducible rfl
          (try simp only [Act.put, List.setIfInBounds_toArray, List.set_cons_zero, List.set_cons_succ])
          refine takeL0 (i := 2) (d := 61) (v := ?_) rfl rfl (by kernel_rfl) (by kernel_rfl) (by kernel_rfl) (by kernel_rfl) (fun _ _ _ _ _ h => h) (by rfl) ?_ (fun _ => hC) ?_
          rotate_left
          · intro w
            go_simp
            try with_reducible rfl
          (try simp only [Act.put, List.setIfInBounds_toArray, List.set_cons_zero, List.set_cons_succ])
          refine takeL0 (i := 3) (d := 62) (v := ?_) rfl rfl (by kernel_rfl) (by kernel_rfl) (by kernel_rfl) (by kernel_rfl) (fun _ _ _ _ _ h => h) (by rfl) ?_ (fun _ => hC) ?_
          rotate_left
          · intro w
            go_simp
            try with_reducible rfl
          (try simp only [Act.put, List.setIfInBounds_toArray, List.set_cons_zero, List.set_cons_succ])
          refine takeL0 (i := 5) (d := 64) (v := ?_) rfl rfl (by kernel_rfl) (by kernel_rfl) (by kernel_rfl) (by kernel_rfl) (fun _ _ _ _ _ h => h) (by rfl) ?_ (fun _ => hC) ?_
          rotate_left
          · intro w
            go_simp
            try with_reducible rfl
          (try simp only [Act.put, List.setIfInBounds_toArray, List.set_cons_zero, List.set_cons_succ])
          refine takeL0 (i := 7) (d := 66) (v := ?_) rfl rfl (by kernel_rfl) (by kernel_rfl) (by kernel_rfl) (by kernel_rfl) (fun _ _ _ _ _ h => h) (by rfl) ?_ (fun _ => hC) ?_
          rotate_left
          · intro w
            go_simp
            try with_reducible rfl
          (try simp only [Act.put, List.setIfInBounds_toArray, List.set_cons_zero, List.set_cons_succ])
          refine takeL0 (i := 10) (d := 69) (v := ?_) rfl rfl (by kernel_rfl) (by kernel_rfl) (by kernel_rfl) (by kernel_rfl) (fun _ _ _ _ _ h => h) (by rfl) ?_ (fun _ => hC) ?_
          rotate_left
          · intro w
            go_simp
            try with_reducible rfl
          (try simp only [Act.put, List.setIfInBounds_toArray, List.set_cons_zero, List.set_cons_succ])
          refine takeL0 (i := 11) (d := 70) (v := ?_) rfl rfl (by kernel_rfl) (by kernel_rfl) (by kernel_rfl) (by kernel_rfl) (fun _ _ _ _ _ h => h) (by rfl) ?_ (fun _ => hC) ?_
          rotate_left
          · intro w
            go_simp
            try with_reducible rfl
          (try simp only [Act.put, List.setIfInBounds_toArray, List.set_cons_zero, List.set_cons_succ])
          refine takeL (i := 0) (d := 59) (v := ?_) rfl rfl (by kernel_rfl) (by kernel_rfl) (by kernel_rfl) (by kernel_rfl) (by kernel_rfl) (by kernel_rfl) (fun _ _ _ _ _ h => h) (by rfl) ?_ hC ?_
          rotate_left
          · intro w hSw
            (try dsimp only at hSw)
            obtain ⟨hS0, hS1, hS2, hS3⟩ := hSw
            go_simp
            try with_reducible rfl
          (try simp only [Act.put, List.setIfInBounds_toArray, List.set_cons_zero, List.set_cons_succ])
          refine someL (rs := [4, 8]) (by kernel_rfl) (by simp) (all_cons ?_ (all_cons ?_ all_nil))
          · refine pickW (i := 4) rfl (by rfl) (fun K hK => ?_)
            go_simp
            have HX10 := HD.out.newMade
            (try simp only [World.size_alloc, World.size_drew, World.alloc_drew] at HX10)
            generalize hWB : World.alloc _ _ = WX1 at HX10 ⊢
            have hzB := congrArg (fun v : World => v.heap.size) hWB
            (try simp only [World.size_alloc, World.size_drew, World.alloc_drew] at hzB)
            have HZ4 := Lib.hid hzB
            clear hzB
            have HX1 := Lib.hid HX10
            clear HX10 hWB hC
            have hC : Box4c w.heap.size (.slice ar c.rooms.length cr) (.slice at_ c.traps.length ct) (.slice au c.runs.length cu) (.slice an c.nights.length cn) WX1 := HC0.out.below HX1.out.low
            refine hK.out _ _ (fun _ => hC) ?_
            clear hK K
            (try simp only [Act.put, List.setIfInBounds_toArray, List.set_cons_zero, List.set_cons_succ])
            refine someL (rs := [6, 8]) (by kernel_rfl) (by simp) (all_cons ?_ (all_cons ?_ all_nil))
            · refine pickL (i := 6) rfl (fun K hK => ?_)
              refine HX1.out.step_list0 (n := 0) 0 [] rfl (Nat.le_of_lt (HX1.out.ge 0 rfl (k := wd.heap.size) rfl).2) al l.length cl (natsI l) (natsI_len _) ((HLw.out.below HX1.out.low (Nat.le_refl _)).mono HX1.out.low.size) (by omega) rfl _ _ rfl rfl rfl ?_
              intro g6 cap6 WX2 hm6 hz6
              simp only [Nat.zero_add, List.nil_append] at hm6 ⊢
              have HZ6 := Lib.hid hz6
              have HX2 := Lib.hid hm6
              clear hm6 hz6 hC
              have hC : Box4c w.heap.size (.slice ar c.rooms.length cr) (.slice at_ c.traps.length ct) (.slice au c.runs.length cu) (.slice an c.nights.length cn) WX2 := HC0.out.below HX2.out.low
              refine hK.out _ _ (fun _ => hC) ?_
              clear hK K
              (try simp only [Act.put, List.setIfInBounds_toArray, List.set_cons_zero, List.set_cons_succ])
              refine nextW (i := 8) rfl (by kernel_rfl) (by rfl) (fun K hK => ?_)
              go_simp
              have HX30 := HX2.out.newBlk 3 #[.int .i64 h]
              (try simp only [World.size_alloc, World.size_drew, World.alloc_drew] at HX30)
              generalize hWB : World.alloc _ _ = WX3 at HX30 ⊢
              have hzB := congrArg (fun v : World => v.heap.size) hWB
              (try simp only [World.size_alloc, World.size_drew, World.alloc_drew] at hzB)
              have HZ8 := Lib.hid hzB
              clear hzB
              have HX3 := Lib.hid HX30
              clear HX30 hWB hC
              have hC : Box4c w.heap.size (.slice ar c.rooms.length cr) (.slice at_ c.traps.length ct) (.slice au c.runs.length cu) (.slice an c.nights.length cn) WX3 := HC0.out.below HX3.out.low
              refine hK.out _ _ (fun _ => hC) ?_
              clear hK K
              (try simp only [Act.put, List.setIfInBounds_toArray, List.set_cons_zero, List.set_cons_succ])
              refine nextL (i := 9) rfl (by kernel_rfl) (fun K hK => ?_)
              refine HX3.out.step_int (n := l.length) 0 (natsI l) (h : Int) rfl (by have z4 := HZ4.out; have z6 := HZ6.out; have z8 := HZ8.out; omega) (by omega) rfl _ _ rfl rfl (WX2.heap.size) rfl (World.news_of_block (HX3.out.at 1 rfl)) ?_
              intro g9 cap9 WX4 hm9 _ _
              have HX4 := Lib.hid hm9
              clear hm9 hC
              have hC : Box4c w.heap.size (.slice ar c.rooms.length cr) (.slice at_ c.traps.length ct) (.slice au c.runs.length cu) (.slice an c.nights.length cn) WX4 := HC0.out.below HX4.out.low
              refine hK.out _ _ (fun _ => hC) ?_
              clear hK K
              (try simp only [Act.put, List.setIfInBounds_toArray, List.set_cons_zero, List.set_cons_succ])
              refine nextW (i := 12) rfl (by kernel_rfl) (by rfl) (fun K hK => ?_)
              go_simp
              (try rw [hwm])
              have hW := HR.out.2.trans (HX4.out.low.mono HR.out.2.size)
              have hl9 : IsInts WX4 WX4.heap.size (.slice (some ⟨g9, 0, none⟩) (l.length + 1) cap9) (natsI (l ++ [h])) := by
                have h9 := HX4.out.at 0 rfl
                have e9 : natsI (l ++ [h]) = natsI l ++ [(h : Int)] := by simp [natsI]
                rw [e9]
                have h10 := nums_of_owns (l := natsI l ++ [(h : Int)]) (by rw [List.length_append, natsI_len]; exact h9) (fun x hx => by
                  rcases List.mem_append.1 hx with hx | hx
                  · obtain ⟨y, hy, rfl⟩ := List.mem_map.1 hx
                    have := HIN.out y hy
                    unfold I64; omega
                  · simp at hx; subst hx; unfold I64; omega) (by rw [List.length_append, natsI_len]; simp; omega)
                exact h10
              refine (HIH.out _ _ _ _ _ (l ++ [h]) WX4 (HC.out.on hW) (HA.out.on hW) hl9 (fun x hx => by
                rcases List.mem_append.1 hx with hx | hx
                · exact HIN.out x hx
                · simp at hx; omega) (by simp; omega)).mono ?_
              rintro e WX5 ⟨v, b, rfl, p1, p2, hb12⟩
              have HPO := Lib.hid (And.intro p1 (And.intro p2 (hW.trans (hb12.mono hW.size))))
              have hC2 := hC.below hb12
              clear hC hb12 p1 p2 hW hl9
              have hC := hC2
              clear hC2
              go_simp
              refine hK.out _ _ (fun _ => hC) ?_
              clear hK K
              (try simp only [Act.put, List.setIfInBounds_toArray, List.set_cons_zero, List.set_cons_succ])
              refine takeL0 (i := 13) (d := 58) (v := ?_) rfl rfl (by kernel_rfl) (by kernel_rfl) (by kernel_rfl) (by kernel_rfl) (fun _ _ _ _ _ h => h) (by rfl) ?_ (fun _ => hC) ?_
              rotate_left
              · intro w
                go_simp
                try with_reducible rfl
              (try simp only [Act.put, List.setIfInBounds_toArray, List.set_cons_zero, List.set_cons_succ])
              refine takeL0 (i := 14) (d := 72) (v := ?_) rfl rfl (by kernel_rfl) (by kernel_rfl) (by kernel_rfl) (by kernel_rfl) (fun _ _ _ _ _ h => h) (by rfl) ?_ (fun _ => hC) ?_
              rotate_left
              · intro w
                go_simp
                try with_reducible rfl
              (try simp only [Act.put, List.setIfInBounds_toArray, List.set_cons_zero, List.set_cons_succ])
              refine takeL0 (i := 15) (d := 73) (v := ?_) rfl rfl (by kernel_rfl) (by kernel_rfl) (by kernel_rfl) (by kernel_rfl) (fun _ _ _ _ _ h => h) (by rfl) ?_ (fun _ => hC) ?_
              rotate_left
              · intro w
                go_simp
                try with_reducible rfl
              (try simp only [Act.put, List.setIfInBounds_toArray, List.set_cons_zero, List.set_cons_succ])
              refine takeL0 (i := 16) (d := 16) (v := ?_) rfl rfl (by kernel_rfl) (by kernel_rfl) (by kernel_rfl) (by kernel_rfl) (fun _ _ _ _ _ h => h) (by rfl) ?_ (fun _ => hC) ?_
              rotate_left
              · intro w
                go_simp
                try with_reducible rfl
              (try simp only [Act.put, List.setIfInBounds_toArray, List.set_cons_zero, List.set_cons_succ])
              refine takeL0 (i := 17) (d := 17) (v := ?_) rfl rfl (by kernel_rfl) (by kernel_rfl) (by kernel_rfl) (by kernel_rfl) (fun _ _ _ _ _ h => h) (by rfl) ?_ (fun _ => hC) ?_
              rotate_left
              · intro w
                go_simp
                try with_reducible rfl
              (try simp only [Act.put, List.setIfInBounds_toArray, List.set_cons_zero, List.set_cons_succ])
              refine anyL_done (by kernel_rfl) ?_ _
              refine NoPanic.normal ?_
              go_wp2_with fail
              go_meet
              exact ⟨v, b, rfl, rfl, HPO.out⟩
            · refine pickW (i := 8) rfl (by rfl) (fun K hK => ?_)
              go_simp
              have HX20 := HX1.out.newBlk 3 #[.int .i64 h]
              (try simp only [World.size_alloc, World.size_drew, World.alloc_drew] at HX20)
              generalize hWB : World.alloc _ _ = WX2 at HX20 ⊢
              have hzB := congrArg (fun v : World => v.heap.size) hWB
              (try simp only [World.size_alloc, World.size_drew, World.alloc_drew] at hzB)
              have HZ8 := Lib.hid hzB
              clear hzB
              have HX2 := Lib.hid HX20
              clear HX20 hWB hC
              have hC : Box4c w.heap.size (.slice ar c.rooms.length cr) (.slice at_ c.traps.length ct) (.slice au c.runs.length cu) (.slice an c.nights.length cn) WX2 := HC0.out.below HX2.out.low
              refine hK.out _ _ (fun _ => hC) ?_
              clear hK K
              (try simp only [Act.put, List.setIfInBounds_toArray, List.set_cons_zero, List.set_cons_succ])
              refine nextL (i := 6) rfl (by kernel_rfl) (fun K hK => ?_)
              refine HX2.out.step_list0 (n := 0) 0 [] rfl (Nat.le_of_lt (HX2.out.ge 0 rfl (k := wd.heap.size) rfl).2) al l.length cl (natsI l) (natsI_len _) ((HLw.out.below HX2.out.low (Nat.le_refl _)).mono HX2.out.low.size) (by omega) rfl _ _ rfl rfl rfl ?_
              intro g6 cap6 WX3 hm6 hz6
              simp only [Nat.zero_add, List.nil_append] at hm6 ⊢
              have HZ6 := Lib.hid hz6
              have HX3 := Lib.hid hm6
              clear hm6 hz6 hC
              have hC : Box4c w.heap.size (.slice ar c.rooms.length cr) (.slice at_ c.traps.length ct) (.slice au c.runs.length cu) (.slice an c.nights.length cn) WX3 := HC0.out.below HX3.out.low
              refine hK.out _ _ (fun _ => hC) ?_
              clear hK K
              (try simp only [Act.put, List.setIfInBounds_toArray, List.set_cons_zero, List.set_cons_succ])
              refine nextL (i := 9) rfl (by kernel_rfl) (fun K hK => ?_)
              refine HX3.out.step_int (n := l.length) 0 (natsI l) (h : Int) rfl (by have z4 := HZ4.out; have z6 := HZ6.out; have z8 := HZ8.out; omega) (by omega) rfl _ _ rfl rfl (WX1.heap.size) rfl (World.news_of_block (HX3.out.at 1 rfl)) ?_
              intro g9 cap9 WX4 hm9 _ _
              have HX4 := Lib.hid hm9
              clear hm9 hC
              have hC : Box4c w.heap.size (.slice ar c.rooms.length cr) (.slice at_ c.traps.length ct) (.slice au c.runs.length cu) (.slice an c.nights.length cn) WX4 := HC0.out.below HX4.out.low
              refine hK.out _ _ (fun _ => hC) ?_
              clear hK K
              (try simp only [Act.put, List.setIfInBounds_toArray, List.set_cons_zero, List.set_cons_succ])
              refine nextW (i := 12) rfl (by kernel_rfl) (by rfl) (fun K hK => ?_)
              go_simp
              (try rw [hwm])
              have hW := HR.out.2.trans (HX4.out.low.mono HR.out.2.size)
              have hl9 : IsInts WX4 WX4.heap.size (.slice (some ⟨g9, 0, none⟩) (l.length + 1) cap9) (natsI (l ++ [h])) := by
                have h9 := HX4.out.at 0 rfl
                have e9 : natsI (l ++ [h]) = natsI l ++ [(h : Int)] := by simp [natsI]
                rw [e9]
                have h10 := nums_of_owns (l := natsI l ++ [(h : Int)]) (by rw [List.length_append, natsI_len]; exact h9) (fun x hx => by
                  rcases List.mem_append.1 hx with hx | hx
                  · obtain ⟨y, hy, rfl⟩ := List.mem_map.1 hx
                    have := HIN.out y hy
                    unfold I64; omega
                  · simp at hx; subst hx; unfold I64; omega) (by rw [List.length_append, natsI_len]; simp; omega)
                exact h10
              refine (HIH.out _ _ _ _ _ (l ++ [h]) WX4 (HC.out.on hW) (HA.out.on hW) hl9 (fun x hx => by
                rcases List.mem_append.1 hx with hx | hx
                · exact HIN.out x hx
                · simp at hx; omega) (by simp; omega)).mono ?_
              rintro e WX5 ⟨v, b, rfl, p1, p2, hb12⟩
              have HPO := Lib.hid (And.intro p1 (And.intro p2 (hW.trans (hb12.mono hW.size))))
              have hC2 := hC.below hb12
              clear hC hb12 p1 p2 hW hl9
              have hC := hC2
              clear hC2
              go_simp
              refine hK.out _ _ (fun _ => hC) ?_
              clear hK K
              (try simp only [Act.put, List.setIfInBounds_toArray, List.set_cons_zero, List.set_cons_succ])
              refine takeL0 (i := 13) (d := 58) (v := ?_) rfl rfl (by kernel_rfl) (by kernel_rfl) (by kernel_rfl) (by kernel_rfl) (fun _ _ _ _ _ h => h) (by rfl) ?_ (fun _ => hC) ?_
              rotate_left
              · intro w
                go_simp
                try with_reducible rfl
              (try simp only [Act.put, List.setIfInBounds_toArray, List.set_cons_zero, List.set_cons_succ])
              refine takeL0 (i := 14) (d := 72) (v := ?_) rfl rfl (by kernel_rfl) (by kernel_rfl) (by kernel_rfl) (by kernel_rfl) (fun _ _ _ _ _ h => h) (by rfl) ?_ (fun _ => hC) ?_
              rotate_left
              · intro w
                go_simp
                try with_reducible rfl
              (try simp only [Act.put, List.setIfInBounds_toArray, List.set_cons_zero, List.set_cons_succ])
              refine takeL0 (i := 15) (d := 73) (v := ?_) rfl rfl (by kernel_rfl) (by kernel_rfl) (by kernel_rfl) (by kernel_rfl) (fun _ _ _ _ _ h => h) (by rfl) ?_ (fun _ => hC) ?_
              rotate_left
              · intro w
                go_simp
                try with_reducible rfl
              (try simp only [Act.put, List.setIfInBounds_toArray, List.set_cons_zero, List.set_cons_succ])
              refine takeL0 (i := 16) (d := 16) (v := ?_) rfl rfl (by kernel_rfl) (by kernel_rfl) (by kernel_rfl) (by kernel_rfl) (fun _ _ _ _ _ h => h) (by rfl) ?_ (fun _ => hC) ?_
              rotate_left
              · intro w
                go_simp
                try with_reducible rfl
              (try simp only [Act.put, List.setIfInBounds_toArray, List.set_cons_zero, List.set_cons_succ])
              refine takeL0 (i := 17) (d := 17) (v := ?_) rfl rfl (by kernel_rfl) (by kernel_rfl) (by kernel_rfl) (by kernel_rfl) (fun _ _ _ _ _ h => h) (by rfl) ?_ (fun _ => hC) ?_
              rotate_left
              · intro w
                go_simp
                try with_reducible rfl
              (try simp only [Act.put, List.setIfInBounds_toArray, List.set_cons_zero, List.set_cons_succ])
              refine anyL_done (by kernel_rfl) ?_ _
              refine NoPanic.normal ?_
              go_wp2_with fail
              go_meet
              exact ⟨v, b, rfl, rfl, HPO.out⟩
          · refine pickW (i := 8) rfl (by rfl) (fun K hK => ?_)
            go_simp
            have HX10 := HD.out.newBlk 3 #[.int .i64 h]
            (try simp only [World.size_alloc, World.size_drew, World.alloc_drew] at HX10)
            generalize hWB : World.alloc _ _ = WX1 at HX10 ⊢
            have hzB := congrArg (fun v : World => v.heap.size) hWB
            (try simp only [World.size_alloc, World.size_drew, World.alloc_drew] at hzB)
            have HZ8 := Lib.hid hzB
            clear hzB
            have HX1 := Lib.hid HX10
            clear HX10 hWB hC
            have hC : Box4c w.heap.size (.slice ar c.rooms.length cr) (.slice at_ c.traps.length ct) (.slice au c.runs.length cu) (.slice an c.nights.length cn) WX1 := HC0.out.below HX1.out.low
            refine hK.out _ _ (fun _ => hC) ?_
            clear hK K
            (try simp only [Act.put, List.setIfInBounds_toArray, List.set_cons_zero, List.set_cons_succ])
            refine nextW (i := 4) rfl (by kernel_rfl) (by rfl) (fun K hK => ?_)
            go_simp
            have HX20 := HX1.out.newMade
            (try simp only [World.size_alloc, World.size_drew, World.alloc_drew] at HX20)
            generalize hWB : World.alloc _ _ = WX2 at HX20 ⊢
            have hzB := congrArg (fun v : World => v.heap.size) hWB
            (try simp only [World.size_alloc, World.size_drew, World.alloc_drew] at hzB)
            have HZ4 := Lib.hid hzB
            clear hzB
            have HX2 := Lib.hid HX20
            clear HX20 hWB hC
            have hC : Box4c w.heap.size (.slice ar c.rooms.length cr) (.slice at_ c.traps.length ct) (.slice au c.runs.length cu) (.slice an c.nights.length cn) WX2 := HC0.out.below HX2.out.low
            refine hK.out _ _ (fun _ => hC) ?_
            clear hK K
            (try simp only [Act.put, List.setIfInBounds_toArray, List.set_cons_zero, List.set_cons_succ])
            refine nextL (i := 6) rfl (by kernel_rfl) (fun K hK => ?_)
            refine HX2.out.step_list0 (n := 0) 1 [] rfl (Nat.le_of_lt (HX2.out.ge 1 rfl (k := WX1.heap.size) rfl).2) al l.length cl (natsI l) (natsI_len _) ((HLw.out.below HX2.out.low (Nat.le_refl _)).mono HX2.out.low.size) (by omega) rfl _ _ rfl rfl rfl ?_
            intro g6 cap6 WX3 hm6 hz6
            simp only [Nat.zero_add, List.nil_append] at hm6 ⊢
            have HZ6 := Lib.hid hz6
            have HX3 := Lib.hid hm6
            clear hm6 hz6 hC
            have hC : Box4c w.heap.size (.slice ar c.rooms.length cr) (.slice at_ c.traps.length ct) (.slice au c.runs.length cu) (.slice an c.nights.length cn) WX3 := HC0.out.below HX3.out.low
            refine hK.out _ _ (fun _ => hC) ?_
            clear hK K
            (try simp only [Act.put, List.setIfInBounds_toArray, List.set_cons_zero, List.set_cons_succ])
            refine nextL (i := 9) rfl (by kernel_rfl) (fun K hK => ?_)
            refine HX3.out.step_int (n := l.length) 1 (natsI l) (h : Int) rfl (by have z4 := HZ4.out; have z6 := HZ6.out; have z8 := HZ8.out; omega) (by omega) rfl _ _ rfl rfl (wd.heap.size) rfl (World.news_of_block (HX3.out.at 0 rfl)) ?_
            intro g9 cap9 WX4 hm9 _ _
            have HX4 := Lib.hid hm9
            clear hm9 hC
            have hC : Box4c w.heap.size (.slice ar c.rooms.length cr) (.slice at_ c.traps.length ct) (.slice au c.runs.length cu) (.slice an c.nights.length cn) WX4 := HC0.out.below HX4.out.low
            refine hK.out _ _ (fun _ => hC) ?_
            clear hK K
            (try simp only [Act.put, List.setIfInBounds_toArray, List.set_cons_zero, List.set_cons_succ])
            refine nextW (i := 12) rfl (by kernel_rfl) (by rfl) (fun K hK => ?_)
            go_simp
            (try rw [hwm])
            have hW := HR.out.2.trans (HX4.out.low.mono HR.out.2.size)
            have hl9 : IsInts WX4 WX4.heap.size (.slice (some ⟨g9, 0, none⟩) (l.length + 1) cap9) (natsI (l ++ [h])) := by
              have h9 := HX4.out.at 1 rfl
              have e9 : natsI (l ++ [h]) = natsI l ++ [(h : Int)] := by simp [natsI]
              rw [e9]
              have h10 := nums_of_owns (l := natsI l ++ [(h : Int)]) (by rw [List.length_append, natsI_len]; exact h9) (fun x hx => by
                rcases List.mem_append.1 hx with hx | hx
                · obtain ⟨y, hy, rfl⟩ := List.mem_map.1 hx
                  have := HIN.out y hy
                  unfold I64; omega
                · simp at hx; subst hx; unfold I64; omega) (by rw [List.length_append, natsI_len]; simp; omega)
              exact h10
            refine (HIH.out _ _ _ _ _ (l ++ [h]) WX4 (HC.out.on hW) (HA.out.on hW) hl9 (fun x hx => by
              rcases List.mem_append.1 hx with hx | hx
              · exact HIN.out x hx
              · simp at hx; omega) (by simp; omega)).mono ?_
            rintro e WX5 ⟨v, b, rfl, p1, p2, hb12⟩
            have HPO := Lib.hid (And.intro p1 (And.intro p2 (hW.trans (hb12.mono hW.size))))
            have hC2 := hC.below hb12
            clear hC hb12 p1 p2 hW hl9
            have hC := hC2
            clear hC2
            go_simp
            refine hK.out _ _ (fun _ => hC) ?_
            clear hK K
            (try simp only [Act.put, List.setIfInBounds_toArray, List.set_cons_zero, List.set_cons_succ])
            refine takeL0 (i := 13) (d := 58) (v := ?_) rfl rfl (by kernel_rfl) (by kernel_rfl) (by kernel_rfl) (by kernel_rfl) (fun _ _ _ _ _ h => h) (by rfl) ?_ (fun _ => hC) ?_
            rotate_left
            · intro w
              go_simp
              try with_reducible rfl
            (try simp only [Act.put, List.setIfInBounds_toArray, List.set_cons_zero, List.set_cons_succ])
            refine takeL0 (i := 14) (d := 72) (v := ?_) rfl rfl (by kernel_rfl) (by kernel_rfl) (by kernel_rfl) (by kernel_rfl) (fun _ _ _ _ _ h => h) (by rfl) ?_ (fun _ => hC) ?_
            rotate_left
            · intro w
              go_simp
              try with_reducible rfl
            (try simp only [Act.put, List.setIfInBounds_toArray, List.set_cons_zero, List.set_cons_succ])
            refine takeL0 (i := 15) (d := 73) (v := ?_) rfl rfl (by kernel_rfl) (by kernel_rfl) (by kernel_rfl) (by kernel_rfl) (fun _ _ _ _ _ h => h) (by rfl) ?_ (fun _ => hC) ?_
            rotate_left
            · intro w
              go_simp
              try with_reducible rfl
            (try simp only [Act.put, List.setIfInBounds_toArray, List.set_cons_zero, List.set_cons_succ])
            refine takeL0 (i := 16) (d := 16) (v := ?_) rfl rfl (by kernel_rfl) (by kernel_rfl) (by kernel_rfl) (by kernel_rfl) (fun _ _ _ _ _ h => h) (by rfl) ?_ (fun _ => hC) ?_
            rotate_left
            · intro w
              go_simp
              try with_reducible rfl
            (try simp only [Act.put, List.setIfInBounds_toArray, List.set_cons_zero, List.set_cons_succ])
            refine takeL0 (i := 17) (d := 17) (v := ?_) rfl rfl (by kernel_rfl) (by kernel_rfl) (by kernel_rfl) (by kernel_rfl) (fun _ _ _ _ _ h => h) (by rfl) ?_ (fun _ => hC) ?_
            rotate_left
            · intro w
              go_simp
              try with_reducible rfl
            (try simp only [Act.put, List.setIfInBounds_toArray, List.set_cons_zero, List.set_cons_succ])
            refine anyL_done (by kernel_rfl) ?_ _
            refine NoPanic.normal ?_
            go_wp2_with fail
            go_meet
            exact ⟨v, b, rfl, rfl, HPO.out⟩
        case rest =>
        obtain ⟨_, b, rfl, rfl, HP⟩ := hcut
        have hfr2 : fromOf l ≤ h := by rw [HFR.out]; exact hf
        have HF2 := Lib.hid hfr2
        clear hfr2
        cases b
        · have hno : chooseC c.rooms.length (testC c R A ap) m (l ++ [h]) = none := by
            cases q : chooseC c.rooms.length (testC c R A ap) m (l ++ [h]) with
            | none => rfl
            | some x => have := (HP.out.1 x q).1; cases this
          have HN := Lib.hid (chooseTo_none HR.out.1 hno)
          clear hno
          go_wp2_with fail
          go_roundw
          case rel => exact ⟨h + 1, by omega, by omega, by go_num, HN.out, HP.out.2.2⟩
          case measure => simp [intOf]; omega
        · obtain ⟨x, hx⟩ : ∃ x, chooseC c.rooms.length (testC c R A ap) m (l ++ [h]) = some x := by
            cases q : chooseC c.rooms.length (testC c R A ap) m (l ++ [h]) with
            | none => have := HP.out.2.1 q; cases this
            | some x => exact ⟨x, rfl⟩
          have HS := Lib.hid (chooseTo_some HR.out.1 hlt HF2.out hx)
          have HV := Lib.hid (HP.out.1 x hx).2
          have HBL := Lib.hid (HB.out.trans (HP.out.2.2.mono HB.out.size))
          clear hx
          go_wp2_with fail
          go_ret2
          refine ⟨_, true, rfl, fun y hy => ?_, fun hy => ?_, HBL.out⟩
          · rw [HS.out] at hy
            cases hy
            exact ⟨rfl, HV.out⟩
          · rw [HS.out] at hy; cases hy
      · obtain rfl : h = c.rooms.length := by omega
        have HN : Hid (chooseC c.rooms.length (testC c R A ap) (m + 1) l = none) := by rw [chooseC_succ]; exact HR.out.1
        have HBL := Lib.hid (HB.out.trans (HR.out.2.mono HB.out.size))
        go_wp2_with fail
        go_ret2
        refine ⟨_, false, rfl, fun y hy => ?_, fun _ => rfl, HBL.out⟩
        rw [HN.out] at hy; cases hy
end Go.Proofs.YtnhifinfjfpoiaaGreat

namespace Go.Proofs.YtnhifinfjfpoiaaGreat
open Go.RowKit
set_option linter.unusedVariables false
set_option linter.unusedSimpArgs false

theorem boolsV_succ (k : Nat) (F : Nat → Bool) : boolsV (k + 1) F = boolsV k F ++ [.bool (F k)] := by simp [boolsV, List.range_succ]
def hasC (c : Col) (h : Nat) : Bool := decide (1 ≤ nth (afterC c) h)
theorem nil_ints (w : World) (B : Nat) : IsInts w B (.slice none 0 0) [] := ⟨⟨none, 0, rfl, Nat.le_refl _, by simp, .inl rfl⟩, fun x hx => by cases hx⟩
set_option maxRecDepth 100000 in
set_option maxHeartbeats 4000000 in
theorem where_ok (c : Col) (r t u n : Value) (R : Int) (w : World) (hc : ColAt w w.heap.size r t u n c) (hk : baitErr c R = 0) :
    Calls Tryz.prog 55 #[.agg #[r, t, u, n], .int .i64 R] w fun e w' => ∃ g cap, e = .returned (.tuple #[.slice (some ⟨g, 0, none⟩) c.rooms.length cap, .int .i64 0]) ∧ BlBlk w' g c.rooms.length (hasC c) ∧ Below w.heap.size w w' := by
  obtain ⟨k0, k1, k2⟩ := bait_in hk
  have ok := okCol_of k0
  have n6 := ok.houses.2
  have n1 := ok.houses.1
  have hBW : Below w.heap.size w (w.alloc (.cells #[r, t, u, n] 32)) := (Below.refl _ w).alloc (Nat.le_refl _) _
  have HC := Lib.hid (hc.on hBW)
  have hx : (w.alloc (.cells #[r, t, u, n] 32)).heap[w.heap.size]? = some (.cells #[r, t, u, n] 32 (0, 0)) := blk _ _ _ _ rfl
  obtain ⟨hr, htr, hu, hn⟩ := hc
  obtain ⟨ar, cr, rfl, _⟩ := hr.open
  obtain ⟨at_, ct, rfl, _⟩ := htr.open
  obtain ⟨au, cu, rfl, _⟩ := hu.open
  obtain ⟨an, cn, rfl, _⟩ := hn.open
  have HB := Lib.hid hBW; have HX := Lib.hid hx
  have HK0 := Lib.hid k0; have HK2 := Lib.hid k2
  have HOF := Lib.hid (off_in k1)
  have HAL : Hid ((afterC c).length = c.rooms.length) := afterTo_len _ _
  have HI0 := Lib.hid (info_parts infoBool)
  clear hr htr hu hn hBW hx ok k0 k1 k2 hk
  go_enter Tryz.func55, Tryz.ntmps55
  go_wp2_with fail
  obtain ⟨W1, hW1⟩ : ∃ W1, w.alloc (.cells #[.slice ar c.rooms.length cr, .slice at_ c.traps.length ct, .slice au c.runs.length cu, .slice an c.nights.length cn] 32) = W1 := ⟨_, rfl⟩
  rw [hW1] at HC HB HX ⊢
  clear hW1
  refine (rcheck_any c _ _ _ _ W1 HC.out).mono ?_
  rintro e w2 ⟨rfl, hb2⟩
  rw [HK0.out]
  have HC2 := Lib.hid (HC.out.on hb2)
  have HX2 := Lib.hid (blk_on HX.out hb2)
  have HB2 := Lib.hid (HB.out.trans (hb2.mono HB.out.size))
  clear hb2
  obtain ⟨q0, q1, q2, q3⟩ := four_of HX2.out
  go_wp2_with fail
  refine (HOF.out w2).mono ?_
  rintro e w3 ⟨rfl, rfl⟩
  go_wp2_with fail
  refine (rAfter_ok c _ _ _ _ w2 HC2.out HK2.out).mono ?_
  rintro e w4 ⟨av, rfl, hv, hb4⟩
  obtain ⟨aa, ca, rfl, _, _, _⟩ := hv.open
  rw [HAL.out] at hv ⊢
  have HV := Lib.hid hv
  have HB4 := Lib.hid (HB2.out.trans (hb4.mono HB2.out.size))
  clear hv hb4 q0 q1 q2 q3
  go_wp2_with fail
  go_loopw [9, 10] (fun v i wr => ∃ k : Nat, k ≤ c.rooms.length ∧ i = .int .i64 k ∧ Hid (wr.ownsRow w4.heap.size 4 1 v k (boolsV k (hasC c)) ∧ Below w4.heap.size w4 wr)) (fun _ i _ => c.rooms.length - (intOf i).toNat)
  case atStart => exact ⟨0, Nat.zero_le _, rfl, World.ownsRow_nil _ _ _ _, Below.refl _ _⟩
  case round =>
    obtain ⟨k, hk, rfl, HR⟩ := hrel
    by_cases hlt : k < c.rooms.length
    · have hki : (k : Int) < c.rooms.length := by omega
      have hvw := (HV.out.below HR.out.2 (Nat.le_refl _)).mono HR.out.2.size
      obtain ⟨xa, xc, ex, _, _, hcl⟩ := hvw.open
      rw [HAL.out] at ex hcl
      obtain ⟨ba, oa, ea, _, m1⟩ := hcl k hlt
      have e1 : aa = xa := by injection ex
      subst e1
      subst ea
      obtain ⟨x, hx⟩ : ∃ x, nth (afterC c) k = x := ⟨_, rfl⟩
      rw [hx] at m1
      obtain ⟨bq, hbq⟩ : ∃ b : Bool, decide ((1 : Int) ≤ x) = b := ⟨_, rfl⟩
      have hh : hasC c k = bq := by unfold hasC; rw [hx]; exact hbq
      have HH := Lib.hid hh
      obtain ⟨ov, oc, hov⟩ := owns_slice HR.out.1
      subst hov
      obtain ⟨i0, hi, hz0, hz1, hz2⟩ := HI0.out
      have HO := Lib.hid (HR.out.1.alloc (.cells #[.bool bq] 4))
      have hsz := HR.out.2.size
      clear hvw ex hcl hx hh
      go_wp2_with (at_builtin; refine wpList_append_lies _ rfl _ _ 86 rfl w4.heap.size 4 i0 (.bool false) 1 1 Tryz.underlying86 hi hz0 hz1 hz2 rfl (by decide) (.slice ov k oc) k (boolsV k (hasC c)) rfl HO.out ⟨wr.heap.size, 0, none⟩ 1 1 [.bool bq] rfl rfl (cell_one_new _ _ _) (fun y hy => by simp at hy; subst hy; rfl) (by decide) (by unfold maxLen; omega) (by omega) (by simp; omega) (wr.heap.size + 1) (by simp) ?_; intro g6 cap6 w6 hown6 hgrow6 _ _)
      have hb6 : Below w4.heap.size w4 w6 := below_grown (HR.out.2.alloc hsz _) hgrow6 (fun r hr => (HO.out.lt r hr).1) (by simp; omega)
      have HN := Lib.hid (And.intro hown6 hb6)
      clear hown6 hgrow6 hb6 HO m1
      go_wp2_with fail
      go_roundw
      case rel => exact ⟨k + 1, by omega, by go_num, by rw [boolsV_succ, HH.out]; exact HN.out.1, HN.out.2⟩
      case measure => simp [intOf]; omega
    · obtain rfl : k = c.rooms.length := by omega
      obtain ⟨g, cap, hv9, _, _⟩ := World.ownsRow.form HR.out.1 (show 0 < c.rooms.length by omega)
      subst hv9
      have HW := Lib.hid (And.intro (BlBlk.owns HR.out.1).1 (HB4.out.trans (HR.out.2.mono HB4.out.size)))
      go_wp2_with fail
      go_ret2
      exact ⟨g, cap, rfl, HW.out.1, HW.out.2⟩
end Go.Proofs.YtnhifinfjfpoiaaGreat

namespace Go.Proofs.YtnhifinfjfpoiaaGreat
open Go.RowKit
set_option linter.unusedVariables false
set_option linter.unusedSimpArgs false

set_option maxRecDepth 100000 in
set_option maxHeartbeats 4000000 in
theorem where_bad (c : Col) (r t u n : Value) (R : Int) (w : World) (hc : ColAt w w.heap.size r t u n c) (hk : ¬ baitErr c R = 0) :
    Calls Tryz.prog 55 #[.agg #[r, t, u, n], .int .i64 R] w fun e w' => ∃ v, e = .returned (.tuple #[v, .int .i64 (baitErr c R)]) ∧ Below w.heap.size w w' := by
  have hBW : Below w.heap.size w (w.alloc (.cells #[r, t, u, n] 32)) := (Below.refl _ w).alloc (Nat.le_refl _) _
  have HC := Lib.hid (hc.on hBW)
  have hx : (w.alloc (.cells #[r, t, u, n] 32)).heap[w.heap.size]? = some (.cells #[r, t, u, n] 32 (0, 0)) := blk _ _ _ _ rfl
  obtain ⟨hr, htr, hu, hn⟩ := hc
  obtain ⟨ar, cr, rfl, _⟩ := hr.open
  obtain ⟨at_, ct, rfl, _⟩ := htr.open
  obtain ⟨au, cu, rfl, _⟩ := hu.open
  obtain ⟨an, cn, rfl, _⟩ := hn.open
  have HB := Lib.hid hBW; have HX := Lib.hid hx
  clear hr htr hu hn hBW hx
  have hcase : (¬ checkC c = 0 ∧ baitErr c R = checkC c) ∨ (checkC c = 0 ∧ inB R 0 3 = false ∧ baitErr c R = 4) ∨ (checkC c = 0 ∧ inB R 0 3 = true ∧ ¬ fitErr c = 0 ∧ baitErr c R = fitErr c) := by
    unfold baitErr at hk ⊢
    by_cases q : checkC c = 0
    · rw [if_pos q] at hk ⊢
      cases q2 : inB R 0 3
      · exact .inr (.inl ⟨q, rfl, by simp⟩)
      · rw [q2] at hk
        simp only [if_true] at hk ⊢
        exact .inr (.inr ⟨q, by simp, hk, by simp⟩)
    · rw [if_neg q]; exact .inl ⟨q, rfl⟩
  clear hk
  rcases hcase with ⟨h1, h2⟩ | ⟨h1, h3, h2⟩ | ⟨h1, h3, h4, h2⟩
  · rw [h2]
    have hb1 : (checkC c == 0) = false := by simpa using h1
    have hb2 : (checkC c != 0) = true := by simp [bne, hb1]
    clear h1 h2
    go_enter Tryz.func55, Tryz.ntmps55
    go_wp2_with fail
    refine (rcheck_any c _ _ _ _ _ HC.out).mono ?_
    rintro e w2 ⟨rfl, hbw⟩
    go_wp2_with fail
    go_ret2
    exact ⟨_, rfl, HB.out.trans (hbw.mono (by simp))⟩
  · rw [h2]
    have HK0 := Lib.hid h1
    have HOF := Lib.hid (off_out h3)
    clear h1 h2 h3
    go_enter Tryz.func55, Tryz.ntmps55
    go_wp2_with fail
    refine (rcheck_any c _ _ _ _ _ HC.out).mono ?_
    rintro e w2 ⟨rfl, hbw⟩
    rw [HK0.out]
    have H2 := Lib.hid hbw
    clear hbw
    go_wp2_with fail
    refine (HOF.out w2).mono ?_
    rintro e w3 ⟨rfl, rfl⟩
    go_wp2_with fail
    go_ret2
    exact ⟨_, rfl, HB.out.trans (H2.out.mono (by simp))⟩
  · rw [h2]
    have HK0 := Lib.hid h1
    have HOF := Lib.hid (off_in h3)
    have HK4 := Lib.hid h4
    clear h1 h2 h3 h4
    go_enter Tryz.func55, Tryz.ntmps55
    go_wp2_with fail
    refine (rcheck_any c _ _ _ _ _ HC.out).mono ?_
    rintro e w2 ⟨rfl, hbw⟩
    rw [HK0.out]
    have HC2 := Lib.hid (HC.out.on hbw)
    obtain ⟨q0, q1, q2, q3⟩ := four_of (blk_on HX.out hbw)
    have H2 := Lib.hid (HB.out.trans (hbw.mono (by simp)))
    clear hbw
    go_wp2_with fail
    refine (HOF.out w2).mono ?_
    rintro e w3 ⟨rfl, rfl⟩
    go_wp2_with fail
    refine (rAfter_bad c _ _ _ _ w2 HC2.out HK4.out).mono ?_
    rintro e w4 ⟨rfl, hb4⟩
    have H4 := Lib.hid (H2.out.trans (hb4.mono H2.out.size))
    clear hb4 q0 q1 q2 q3
    go_wp2_with fail
    go_loopw [10] (fun i wr => i = .int .i64 0 ∧ w4 = wr) (fun i _ => 0)
    case atStart => exact ⟨rfl, rfl⟩
    case round =>
      obtain ⟨rfl, rfl⟩ := hrel
      go_wp2_with fail
      go_ret2
      exact ⟨_, rfl, H4.out⟩

set_option maxRecDepth 100000 in
set_option maxHeartbeats 4000000 in
theorem rBaits_ok (c : Col) (r t u n : Value) (R : Int) (w : World) (hc : ColAt w w.heap.size r t u n c) (hk : baitErr c R = 0) :
    Calls Tryz.prog 13 #[.agg #[r, t, u, n], .int .i64 R] w fun e w' => ∃ v, e = .returned (.tuple #[v, .int .i64 0]) ∧ IsInts w' w'.heap.size v (baitsC c R.toNat) ∧ Below w.heap.size w w' := by
  obtain ⟨k0, k1, k2⟩ := bait_in hk
  have ok := okCol_of k0
  have n6 := ok.houses.2
  have hin := inB_true k1
  obtain ⟨M, rfl⟩ : ∃ M : Nat, R = M := ⟨R.toNat, by omega⟩
  have hM : M ≤ 3 := by omega
  obtain ⟨l, m, hm, hl, hno, heq⟩ := baits_first ok M
  have ht : coversC c M = testC c M (hasC c) false := funext fun x => rfl
  rw [ht] at hl hno
  have HL := Lib.hid hl; have HNO := Lib.hid hno; have HEQ := Lib.hid heq
  have hBW : Below w.heap.size w (w.alloc (.cells #[r, t, u, n] 32)) := (Below.refl _ w).alloc (Nat.le_refl _) _
  have HC := Lib.hid (hc.on hBW)
  have hx : (w.alloc (.cells #[r, t, u, n] 32)).heap[w.heap.size]? = some (.cells #[r, t, u, n] 32 (0, 0)) := blk _ _ _ _ rfl
  obtain ⟨hr, htr, hu, hn⟩ := hc
  obtain ⟨ar, cr, rfl, _⟩ := hr.open
  obtain ⟨at_, ct, rfl, _⟩ := htr.open
  obtain ⟨au, cu, rfl, _⟩ := hu.open
  obtain ⟨an, cn, rfl, _⟩ := hn.open
  have HB := Lib.hid hBW; have HX := Lib.hid hx; have HOK := Lib.hid ok; have HK := Lib.hid hk
  clear hr htr hu hn hBW hx ok k0 k1 k2 hk hl hno heq ht hin
  go_enter Tryz.func13, Tryz.ntmps13
  go_wp2_with fail
  obtain ⟨W1, hW1⟩ : ∃ W1, w.alloc (.cells #[.slice ar c.rooms.length cr, .slice at_ c.traps.length ct, .slice au c.runs.length cu, .slice an c.nights.length cn] 32) = W1 := ⟨_, rfl⟩
  rw [hW1] at HC HB HX ⊢
  clear hW1
  refine (where_ok c _ _ _ _ M W1 HC.out HK.out).mono ?_
  rintro e w2 ⟨g, cap, rfl, hbl, hb2⟩
  have HA := Lib.hid hbl
  have HC2 := Lib.hid (HC.out.on hb2)
  have HX2 := Lib.hid (blk_on HX.out hb2)
  have HB2 := Lib.hid (HB.out.trans (hb2.mono HB.out.size))
  clear hbl hb2
  go_wp2_with fail
  go_loopw [8] (fun i wr => ∃ k : Nat, k ≤ m ∧ i = .int .i64 k ∧ Hid (Below w2.heap.size w2 wr)) (fun i _ => m + 1 - (intOf i).toNat)
  case atStart => exact ⟨0, Nat.zero_le _, rfl, Below.refl _ _⟩
  case round =>
    obtain ⟨k, hk, rfl, HR⟩ := hrel
    obtain ⟨q0, q1, q2, q3⟩ := four_of (blk_on HX2.out HR.out)
    go_wp2_with fail
    refine (choose_any c HOK.out M g cap hM (hasC c) false k _ _ _ _ (.slice none 0 0) [] wr (HC2.out.on HR.out) (HA.out.on HR.out) (nil_ints _ _) (fun x hx => by cases hx) (by simp; omega)).mono ?_
    rintro e w5 ⟨v, b, rfl, p1, p2, hb5⟩
    have HP := Lib.hid (And.intro p1 (And.intro p2 (HR.out.trans (hb5.mono HR.out.size))))
    clear p1 p2 hb5 q0 q1 q2 q3
    by_cases hkm : k = m
    · subst hkm
      obtain ⟨hb, hv⟩ := HP.out.1 l HL.out
      subst hb
      have HV := Lib.hid hv
      clear hv
      go_wp2_with fail
      go_ret2
      exact ⟨v, rfl, by rw [Int.toNat_natCast, HEQ.out]; exact HV.out, HB2.out.trans (HP.out.2.2.mono HB2.out.size)⟩
    · have hb := HP.out.2.1 (HNO.out k (by omega))
      subst hb
      go_wp2_with fail
      go_roundw
      case rel => exact ⟨k + 1, by omega, by go_num, HP.out.2.2⟩
      case measure => simp [intOf]; omega
set_option maxRecDepth 100000 in
set_option maxHeartbeats 4000000 in
theorem rApart_ok (c : Col) (r t u n : Value) (R : Int) (w : World) (hc : ColAt w w.heap.size r t u n c) (hk : baitErr c R = 0) :
    Calls Tryz.prog 15 #[.agg #[r, t, u, n], .int .i64 R] w fun e w' => ∃ v, e = .returned (.tuple #[v, .int .i64 0]) ∧ IsInts w' w'.heap.size v (apartC c R.toNat) ∧ Below w.heap.size w w' := by
  obtain ⟨k0, k1, k2⟩ := bait_in hk
  have ok := okCol_of k0
  have n6 := ok.houses.2
  have hin := inB_true k1
  obtain ⟨M, rfl⟩ : ∃ M : Nat, R = M := ⟨R.toNat, by omega⟩
  have hM : M ≤ 3 := by omega
  obtain ⟨l, m, hm, hl, hno, heq⟩ := apart_first ok M
  have ht : separateC c M = testC c M (hasC c) true := funext fun x => rfl
  rw [ht] at hl hno
  have HL := Lib.hid hl; have HNO := Lib.hid hno; have HEQ := Lib.hid heq
  have hBW : Below w.heap.size w (w.alloc (.cells #[r, t, u, n] 32)) := (Below.refl _ w).alloc (Nat.le_refl _) _
  have HC := Lib.hid (hc.on hBW)
  have hx : (w.alloc (.cells #[r, t, u, n] 32)).heap[w.heap.size]? = some (.cells #[r, t, u, n] 32 (0, 0)) := blk _ _ _ _ rfl
  obtain ⟨hr, htr, hu, hn⟩ := hc
  obtain ⟨ar, cr, rfl, _⟩ := hr.open
  obtain ⟨at_, ct, rfl, _⟩ := htr.open
  obtain ⟨au, cu, rfl, _⟩ := hu.open
  obtain ⟨an, cn, rfl, _⟩ := hn.open
  have HB := Lib.hid hBW; have HX := Lib.hid hx; have HOK := Lib.hid ok; have HK := Lib.hid hk
  clear hr htr hu hn hBW hx ok k0 k1 k2 hk hl hno heq ht hin
  go_enter Tryz.func15, Tryz.ntmps15
  go_wp2_with fail
  obtain ⟨W1, hW1⟩ : ∃ W1, w.alloc (.cells #[.slice ar c.rooms.length cr, .slice at_ c.traps.length ct, .slice au c.runs.length cu, .slice an c.nights.length cn] 32) = W1 := ⟨_, rfl⟩
  rw [hW1] at HC HB HX ⊢
  clear hW1
  refine (where_ok c _ _ _ _ M W1 HC.out HK.out).mono ?_
  rintro e w2 ⟨g, cap, rfl, hbl, hb2⟩
  have HA := Lib.hid hbl
  have HC2 := Lib.hid (HC.out.on hb2)
  have HX2 := Lib.hid (blk_on HX.out hb2)
  have HB2 := Lib.hid (HB.out.trans (hb2.mono HB.out.size))
  clear hbl hb2
  go_wp2_with fail
  go_loopw [8] (fun i wr => ∃ k : Nat, m ≤ k ∧ k ≤ c.rooms.length ∧ i = .int .i64 k ∧ Hid (Below w2.heap.size w2 wr)) (fun i _ => (intOf i).toNat)
  case atStart => exact ⟨c.rooms.length, hm, Nat.le_refl _, rfl, Below.refl _ _⟩
  case round =>
    obtain ⟨k, hk, hkn, rfl, HR⟩ := hrel
    obtain ⟨q0, q1, q2, q3⟩ := four_of (blk_on HX2.out HR.out)
    go_wp2_with fail
    refine (choose_any c HOK.out M g cap hM (hasC c) true k _ _ _ _ (.slice none 0 0) [] wr (HC2.out.on HR.out) (HA.out.on HR.out) (nil_ints _ _) (fun x hx => by cases hx) (by simp; omega)).mono ?_
    rintro e w5 ⟨v, b, rfl, p1, p2, hb5⟩
    have HP := Lib.hid (And.intro p1 (And.intro p2 (HR.out.trans (hb5.mono HR.out.size))))
    clear p1 p2 hb5 q0 q1 q2 q3
    by_cases hkm : k = m
    · subst hkm
      obtain ⟨hb, hv⟩ := HP.out.1 l HL.out
      subst hb
      have HV := Lib.hid hv
      clear hv
      go_wp2_with fail
      go_ret2
      exact ⟨v, rfl, by rw [Int.toNat_natCast, HEQ.out]; exact HV.out, HB2.out.trans (HP.out.2.2.mono HB2.out.size)⟩
    · have hb := HP.out.2.1 (HNO.out k (by omega) hkn)
      subst hb
      obtain ⟨k', rfl⟩ : ∃ k', k = k' + 1 := ⟨k - 1, by omega⟩
      have hwk : IntKind.i64.wrap (k' : Int) = (k' : Int) := by rw [IntKind.wrap_i64]; omega
      go_wp2_with fail
      go_roundw
      case rel => exact ⟨k', by omega, by omega, by go_num, HP.out.2.2⟩
      case measure => simp [intOf] <;> omega
end Go.Proofs.YtnhifinfjfpoiaaGreat

namespace Go.Proofs.YtnhifinfjfpoiaaGreat
open Go.RowKit
set_option linter.unusedVariables false
set_option linter.unusedSimpArgs false

set_option maxRecDepth 100000 in
set_option maxHeartbeats 2000000 in
theorem rBaits_bad (c : Col) (r t u n : Value) (R : Int) (w : World) (hc : ColAt w w.heap.size r t u n c) (hk : ¬ baitErr c R = 0) :
    Calls Tryz.prog 13 #[.agg #[r, t, u, n], .int .i64 R] w fun e w' => e = .returned (.tuple #[.slice none 0 0, .int .i64 (baitErr c R)]) ∧ Below w.heap.size w w' := by
  have hBW : Below w.heap.size w (w.alloc (.cells #[r, t, u, n] 32)) := (Below.refl _ w).alloc (Nat.le_refl _) _
  have HC := Lib.hid (hc.on hBW)
  obtain ⟨hr, htr, hu, hn⟩ := hc
  obtain ⟨ar, cr, rfl, _⟩ := hr.open
  obtain ⟨at_, ct, rfl, _⟩ := htr.open
  obtain ⟨au, cu, rfl, _⟩ := hu.open
  obtain ⟨an, cn, rfl, _⟩ := hn.open
  have HB := Lib.hid hBW
  clear hr htr hu hn hBW
  have hk1 : (baitErr c R == 0) = false := by simpa using hk
  have hk2 : (baitErr c R != 0) = true := by simp [bne, hk1]
  have HK := Lib.hid hk
  clear hk
  go_enter Tryz.func13, Tryz.ntmps13
  go_wp2_with fail
  refine (where_bad c _ _ _ _ R _ HC.out HK.out).mono ?_
  rintro e w2 ⟨v, rfl, hb2⟩
  have H2 := Lib.hid (HB.out.trans (hb2.mono (by simp)))
  clear hb2
  go_wp2_with fail
  go_ret2
  exact ⟨rfl, H2.out⟩

set_option maxRecDepth 100000 in
set_option maxHeartbeats 2000000 in
theorem rApart_bad (c : Col) (r t u n : Value) (R : Int) (w : World) (hc : ColAt w w.heap.size r t u n c) (hk : ¬ baitErr c R = 0) :
    Calls Tryz.prog 15 #[.agg #[r, t, u, n], .int .i64 R] w fun e w' => e = .returned (.tuple #[.slice none 0 0, .int .i64 (baitErr c R)]) ∧ Below w.heap.size w w' := by
  have hBW : Below w.heap.size w (w.alloc (.cells #[r, t, u, n] 32)) := (Below.refl _ w).alloc (Nat.le_refl _) _
  have HC := Lib.hid (hc.on hBW)
  obtain ⟨hr, htr, hu, hn⟩ := hc
  obtain ⟨ar, cr, rfl, _⟩ := hr.open
  obtain ⟨at_, ct, rfl, _⟩ := htr.open
  obtain ⟨au, cu, rfl, _⟩ := hu.open
  obtain ⟨an, cn, rfl, _⟩ := hn.open
  have HB := Lib.hid hBW
  clear hr htr hu hn hBW
  have hk1 : (baitErr c R == 0) = false := by simpa using hk
  have hk2 : (baitErr c R != 0) = true := by simp [bne, hk1]
  have HK := Lib.hid hk
  clear hk
  go_enter Tryz.func15, Tryz.ntmps15
  go_wp2_with fail
  refine (where_bad c _ _ _ _ R _ HC.out HK.out).mono ?_
  rintro e w2 ⟨v, rfl, hb2⟩
  have H2 := Lib.hid (HB.out.trans (hb2.mono (by simp)))
  clear hb2
  go_wp2_with fail
  go_ret2
  exact ⟨rfl, H2.out⟩

set_option maxRecDepth 100000 in
set_option maxHeartbeats 2000000 in
theorem rReaches_bad (c : Col) (r t u n : Value) (h m : Int) (w : World) (hc : ColAt w w.heap.size r t u n c) (hk : ¬ reachErr c h m = 0) :
    Calls Tryz.prog 10 #[.agg #[r, t, u, n], .int .i64 h, .int .i64 m] w fun e w' => e = .returned (.tuple #[.slice none 0 0, .int .i64 (reachErr c h m)]) ∧ Below w.heap.size w w' := by
  have hBW : Below w.heap.size w (w.alloc (.cells #[r, t, u, n] 32)) := (Below.refl _ w).alloc (Nat.le_refl _) _
  have HC := Lib.hid (hc.on hBW)
  obtain ⟨hr, htr, hu, hn⟩ := hc
  obtain ⟨ar, cr, rfl, _⟩ := hr.open
  obtain ⟨at_, ct, rfl, _⟩ := htr.open
  obtain ⟨au, cu, rfl, _⟩ := hu.open
  obtain ⟨an, cn, rfl, _⟩ := hn.open
  have HB := Lib.hid hBW
  clear hr htr hu hn hBW
  have hcase : (¬ houseErr c h = 0 ∧ reachErr c h m = houseErr c h) ∨ (houseErr c h = 0 ∧ inB m 0 3 = false ∧ reachErr c h m = 4) := by
    unfold reachErr houseErr at *
    by_cases q : checkC c = 0
    · simp only [if_pos q] at hk ⊢
      cases q2 : inB h 0 (c.rooms.length - 1) <;> cases q3 : inB m 0 3 <;> simp [q2, q3] at hk ⊢
    · left; rw [if_neg q, if_neg q]; exact ⟨q, rfl⟩
  clear hk
  rcases hcase with ⟨h1, h2⟩ | ⟨h1, h3, h2⟩
  · rw [h2]
    have hb1 : (houseErr c h == 0) = false := by simpa using h1
    have hb2 : (houseErr c h != 0) = true := by simp [bne, hb1]
    clear h1 h2
    go_enter Tryz.func10, Tryz.ntmps10
    go_wp2_with fail
    refine (rhouse_any c _ _ _ _ h _ HC.out).mono ?_
    rintro e w2 ⟨rfl, hbw⟩
    go_wp2_with fail
    go_ret2
    exact ⟨rfl, HB.out.trans (hbw.mono (by simp))⟩
  · rw [h2]
    have HK0 := Lib.hid h1
    have HOF := Lib.hid (off_out h3)
    clear h1 h2 h3
    go_enter Tryz.func10, Tryz.ntmps10
    go_wp2_with fail
    refine (rhouse_any c _ _ _ _ h _ HC.out).mono ?_
    rintro e w2 ⟨rfl, hbw⟩
    rw [HK0.out]
    have H2 := Lib.hid (HB.out.trans (hbw.mono (by simp)))
    clear hbw
    go_wp2_with fail
    refine (HOF.out w2).mono ?_
    rintro e w3 ⟨rfl, rfl⟩
    go_wp2_with fail
    go_ret2
    exact ⟨rfl, H2.out⟩

/-- What the three tell: nothing where they refuse. -/
def reachV (c : Col) (h m : Int) : List Int := if reachErr c h m = 0 then natsI (members (reachN c h.toNat m.toNat)) else []
def baitV (c : Col) (R : Int) : List Int := if baitErr c R = 0 then baitsC c R.toNat else []
def apartV (c : Col) (R : Int) : List Int := if baitErr c R = 0 then apartC c R.toNat else []
theorem reaches_both (c : Col) (r t u n : Value) (h m : Int) (w : World) (hc : ColAt w w.heap.size r t u n c) :
    (Calls Tryz.prog 9 #[.agg #[r, t, u, n], .int .i64 h, .int .i64 m] w fun e w' => ∃ v, e = .returned (.tuple #[v, .int .i64 (reachErr c h m)]) ∧ IsInts w' w'.heap.size v (reachV c h m) ∧ Below w.heap.size w w') ∧
    (Calls Tryz.prog 10 #[.agg #[r, t, u, n], .int .i64 h, .int .i64 m] w fun e w' => ∃ v, e = .returned (.tuple #[v, .int .i64 (reachErr c h m)]) ∧ IsInts w' w'.heap.size v (reachV c h m) ∧ Below w.heap.size w w') := by
  unfold reachV
  by_cases q : reachErr c h m = 0
  · rw [if_pos q, q]
    exact ⟨Reaches_good c r t u n h m w hc q, rReaches_good c r t u n h m w hc q⟩
  · rw [if_neg q]
    exact ⟨(Reaches_bad c r t u n h m w hc q).mono fun _ w' ⟨h1, h2⟩ => ⟨_, h1, ints_nil w' _, h2⟩, (rReaches_bad c r t u n h m w hc q).mono fun _ w' ⟨h1, h2⟩ => ⟨_, h1, ints_nil w' _, h2⟩⟩

theorem baits_both (c : Col) (r t u n : Value) (R : Int) (w : World) (hc : ColAt w w.heap.size r t u n c) :
    (Calls Tryz.prog 12 #[.agg #[r, t, u, n], .int .i64 R] w fun e w' => ∃ v, e = .returned (.tuple #[v, .int .i64 (baitErr c R)]) ∧ IsInts w' w'.heap.size v (baitV c R) ∧ Below w.heap.size w w') ∧
    (Calls Tryz.prog 13 #[.agg #[r, t, u, n], .int .i64 R] w fun e w' => ∃ v, e = .returned (.tuple #[v, .int .i64 (baitErr c R)]) ∧ IsInts w' w'.heap.size v (baitV c R) ∧ Below w.heap.size w w') := by
  unfold baitV
  by_cases q : baitErr c R = 0
  · rw [if_pos q, q]
    exact ⟨Baits_ok c r t u n R w hc q, rBaits_ok c r t u n R w hc q⟩
  · rw [if_neg q]
    exact ⟨(Baits_bad c r t u n R w hc q).mono fun _ w' ⟨h1, h2⟩ => ⟨_, h1, ints_nil w' _, h2⟩, (rBaits_bad c r t u n R w hc q).mono fun _ w' ⟨h1, h2⟩ => ⟨_, h1, ints_nil w' _, h2⟩⟩

theorem apart_both (c : Col) (r t u n : Value) (R : Int) (w : World) (hc : ColAt w w.heap.size r t u n c) :
    (Calls Tryz.prog 14 #[.agg #[r, t, u, n], .int .i64 R] w fun e w' => ∃ v, e = .returned (.tuple #[v, .int .i64 (baitErr c R)]) ∧ IsInts w' w'.heap.size v (apartV c R) ∧ Below w.heap.size w w') ∧
    (Calls Tryz.prog 15 #[.agg #[r, t, u, n], .int .i64 R] w fun e w' => ∃ v, e = .returned (.tuple #[v, .int .i64 (baitErr c R)]) ∧ IsInts w' w'.heap.size v (apartV c R) ∧ Below w.heap.size w w') := by
  unfold apartV
  by_cases q : baitErr c R = 0
  · rw [if_pos q, q]
    exact ⟨Apart_ok c r t u n R w hc q, rApart_ok c r t u n R w hc q⟩
  · rw [if_neg q]
    exact ⟨(Apart_bad c r t u n R w hc q).mono fun _ w' ⟨h1, h2⟩ => ⟨_, h1, ints_nil w' _, h2⟩, (rApart_bad c r t u n R w hc q).mono fun _ w' ⟨h1, h2⟩ => ⟨_, h1, ints_nil w' _, h2⟩⟩

end Go.Proofs.YtnhifinfjfpoiaaGreat
