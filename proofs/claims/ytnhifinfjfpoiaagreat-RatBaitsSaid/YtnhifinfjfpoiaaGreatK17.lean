/- Regions that draw their order, with a condition on the world that may turn with what has come up: a load is taken first although the region's last stores write its cell. Regions that draw their order, where several operations may come up next. Regions that draw their order: an operation that comes up, with its guard settled. Contracts of the reference's covers and separate. Contract of the reference's separate. Parts of memory that lie apart, without any type of a law: what turns one leaves the others as they are; and what a walk knows of memory, in one fact. An append to a list of one's own, of some elements or of none: where the list then lies. -/
import Derived.Test.YtnhifinfjfpoiaaGreatK01
import Derived.Test.YtnhifinfjfpoiaaGreatK16
import Derived.Test.YtnhifinfjfpoiaaGreatK04
import Derived.Deep.RegionHeld3
import Derived.Deep.AppendLies
import Derived.Deep.Upon
import Derived.Laws.OwnMore
namespace Go.Proofs.YtnhifinfjfpoiaaGreat
open Go.RowKit
set_option linter.unusedVariables false

section
variable {P : Program} {ops : Array Oper} {Q : Exit → Act → World → Prop} {md : Region.Mode} {S : Array Bool → World → Prop}

/-- Whatever comes up, and S of what has come up holds behind each operation. -/
def anyL (P : Program) (md : Region.Mode) (ops : Array Oper) (Q : Exit → Act → World → Prop) (S : Array Bool → World → Prop) : Nat → Array Bool → Act → World → Prop
  | 0, l, a, w => Region.ready md ops l = [] ∧ Q .normal a w
  | n + 1, l, a, w => (Region.ready md ops l = [] → Q .normal a w) ∧ ∀ i ∈ Region.ready md ops l, wpOp P ops Q i (fun a' w' => S (l.setIfInBounds i true) w' ∧ anyL P md ops Q S n (l.setIfInBounds i true) a' w') a w
theorem anyL_any : ∀ (n : Nat) (l : Array Bool) (a : Act) (w : World), anyL P md ops Q S n l a w → wpAny P md ops Q n l a w
  | 0, _, _, _, h => h
  | n + 1, _, _, _, h => ⟨h.1, fun i hi => wpOp_mono (fun a' w' h' => anyL_any n _ a' w' h'.2) (h.2 i hi)⟩
theorem anyL_start {id : Nat} {a : Act} {w : World} (hm : P.follows .mixedOrders = true) (hS : S (Array.replicate ops.size false) w.drew)
    (h : S (Array.replicate ops.size false) w.drew → anyL P .any ops Q S ops.size (Array.replicate ops.size false) a w.drew) : (Code.region id ops true).wp P Q a w := by
  have H := anyL_any (P := P) (md := .any) (ops := ops) (Q := Q) (S := S) ops.size (Array.replicate ops.size false) a w.drew (h hS)
  refine wp_region_held (S := fun _ => True) hm ?_
  have key : ∀ (n : Nat) (l : Array Bool) (a : Act) (w : World), wpAny P .any ops Q n l a w → wpAnyH P .any ops Q (fun _ => True) n l a w := by
    intro n
    induction n with
    | zero => exact fun l a w h => h
    | succ n ih => exact fun l a w h => ⟨h.1, fun i hi => wpOp_mono (fun a' w' h' => ⟨trivial, ih _ a' w' h'⟩) (h.2 i hi)⟩
  exact key _ _ _ _ H
theorem anyL_ready {rs : List Nat} {n : Nat} {l : Array Bool} {a : Act} {w : World} (hr : Region.ready md ops l = rs) (hne : rs ≠ [])
    (h : ∀ i ∈ rs, wpOp P ops Q i (fun a' w' => S (l.setIfInBounds i true) w' ∧ anyL P md ops Q S n (l.setIfInBounds i true) a' w') a w) : anyL P md ops Q S (n + 1) l a w :=
  ⟨fun h0 => absurd (hr ▸ h0) hne, hr ▸ h⟩
theorem anyL_done {l : Array Bool} {a : Act} {w : World} (hr : Region.ready md ops l = []) (h : Q .normal a w) : ∀ n, anyL P md ops Q S n l a w
  | 0 => ⟨hr, h⟩
  | _ + 1 => ⟨fun _ => h, by rw [hr]; simp⟩
end
section
variable {P : Program} {ops : Array Oper} {Q : Exit → Act → World → Prop} {md : Region.Mode} {st : List Nat} {C : World → Prop}
/-- Until one of the operations st has come up, C holds. -/
def Till (st : List Nat) (C : World → Prop) (l : Array Bool) (w : World) : Prop := (∀ j ∈ st, l.getD j true = false) → C w
/-- Every operation of st waits for number i. -/
def waits (md : Region.Mode) (ops : Array Oper) (st : List Nat) (i : Nat) : Bool := st.all fun j => match ops[j]? with
  | some o => o.after.any fun e => Region.binds md e && e.on == i
  | none => false
theorem anyL_first {i : Nat} {oi : Oper} {v : Value} (hi : ops[i]? = some oi) (hsel : ∀ (j : Nat) (o : Oper) cs b, ops[j]? = some o → o.op ≠ .select cs b)
    (hQ : ∀ c a w, Q (.panic c) (a.put oi.dst v) w → Q (.panic c) a w) (hst : waits md ops st i = true) (hist : i ∉ st) :
    ∀ (n : Nat) (l : Array Bool) (a : Act) (w : World),
      (∀ j oj, ops[j]? = some oj → j ≠ i → l.getD j true = false → (∀ e ∈ oj.after, Region.binds md e = true → e.on ≠ i) → oi.apart ops oj = true) →
      i ∈ Region.ready md ops l → (∀ j ∈ st, l.getD j true = false) → YieldsIf P ops C oi v a → C w →
      anyL P md ops Q (Till st C) n (l.setIfInBounds i true) (a.put oi.dst v) w → anyL P md ops Q (Till st C) (n + 1) l a w := by
  have hst' : ∀ j ∈ st, ∃ o, ops[j]? = some o ∧ ∃ e ∈ o.after, Region.binds md e = true ∧ e.on = i := fun j hj => by
    have h := List.all_eq_true.1 hst j hj
    split at h
    · rename_i o ho
      rw [Array.any_eq_true'] at h
      obtain ⟨e, he, hb⟩ := h
      rw [Bool.and_eq_true, beq_iff_eq] at hb
      exact ⟨o, ho, e, he, hb.1, hb.2⟩
    · cases h
  intro n
  induction n with
  | zero =>
    intro l a w _ hr _ hy hC H
    refine ⟨fun h => (by rw [h] at hr; cases hr), fun j hj => ?_⟩
    by_cases hji : j = i
    · subst hji; exact hy.wpOp hi hC ⟨fun _ => hC, H⟩
    · have := ready_mono hj hji
      rw [H.1] at this
      cases this
  | succ n ih =>
    intro l a w hfree hr hls hy hC H
    refine ⟨fun h => (by rw [h] at hr; cases hr), fun j hj => ?_⟩
    by_cases hji : j = i
    · subst hji; exact hy.wpOp hi hC ⟨fun _ => hC, H⟩
    · have h1 := H.2 j (ready_mono hj hji)
      obtain ⟨hjun, oj, hoj, hall⟩ := mem_ready.1 hj
      have hnot : ∀ e ∈ oj.after, Region.binds md e = true → e.on ≠ i := fun e he hb heq => by
        have h1 := hall e he hb
        have h0 := (mem_ready.1 hr).1
        rw [heq] at h1
        rcases Nat.lt_or_ge i l.size with h' | h'
        · simp [h'] at h0 h1; rw [h0] at h1; cases h1
        · simp [Array.getElem?_eq_none h'] at h1
      have hjst : j ∉ st := fun hm => by
        obtain ⟨o, ho, e, he, hb, hon⟩ := hst' j hm
        rw [hoj] at ho
        cases ho
        exact hnot e he hb hon
      have hls' : ∀ k ∈ st, (l.setIfInBounds j true).getD k true = false := fun k hk => by
        rw [getD_set_ne true (fun e => hjst (by rw [e]; exact hk))]; exact hls k hk
      have hls'' : ∀ k ∈ st, ((l.setIfInBounds i true).setIfInBounds j true).getD k true = false := fun k hk => by
        rw [getD_set_ne true (fun e => hjst (by rw [e]; exact hk)), getD_set_ne true (fun e => hist (by rw [e]; exact hk))]; exact hls k hk
      have h2 := wpOp_putIf hoj (hfree j oj hoj hji hjun hnot) (fun cs b => hsel i oi cs b hi) (fun cs b => hsel j oj cs b hoj) hQ hy h1
      have hfree' : ∀ k ok, ops[k]? = some ok → k ≠ i → (l.setIfInBounds j true).getD k true = false →
          (∀ e ∈ ok.after, Region.binds md e = true → e.on ≠ i) → oi.apart ops ok = true := fun k ok hk hki hun hno => by
        refine hfree k ok hk hki ?_ hno
        by_cases hjk : j = k
        · subst hjk; exact hjun
        · rw [getD_set_ne true hjk] at hun; exact hun
      refine wpOp_mono (fun a' w' h3 => ?_) h2
      have hC' : C w' := h3.2.1 hls''
      refine ⟨fun _ => hC', ih (l.setIfInBounds j true) a' w' hfree' (ready_mono hr (Ne.symm hji)) hls' h3.1 hC' ?_⟩
      rw [Array.setIfInBounds_comm _ _ hji]
      exact h3.2.2
/-- The same for what yields in whatever world. -/
theorem anyL_first0 {i : Nat} {oi : Oper} {v : Value} (hi : ops[i]? = some oi) (hsel : ∀ (j : Nat) (o : Oper) cs b, ops[j]? = some o → o.op ≠ .select cs b)
    (hQ : ∀ c a w, Q (.panic c) (a.put oi.dst v) w → Q (.panic c) a w) (hist : i ∉ st) :
    ∀ (n : Nat) (l : Array Bool) (a : Act) (w : World),
      (∀ j oj, ops[j]? = some oj → j ≠ i → l.getD j true = false → (∀ e ∈ oj.after, Region.binds md e = true → e.on ≠ i) → oi.apart ops oj = true) →
      i ∈ Region.ready md ops l → Till st C l w → YieldsIf P ops (fun _ => True) oi v a →
      anyL P md ops Q (Till st C) n (l.setIfInBounds i true) (a.put oi.dst v) w → anyL P md ops Q (Till st C) (n + 1) l a w := by
  have tl : ∀ {l : Array Bool} {w : World}, Till st C l w → Till st C (l.setIfInBounds i true) w := fun h hls => h fun k hk => by
    have := hls k hk
    rwa [getD_set_ne true (fun e => hist (by rw [e]; exact hk))] at this
  have lt : ∀ {l : Array Bool} {w : World}, Till st C (l.setIfInBounds i true) w → Till st C l w := fun h hls => h fun k hk => by
    rw [getD_set_ne true (fun e => hist (by rw [e]; exact hk))]; exact hls k hk
  intro n
  induction n with
  | zero =>
    intro l a w _ hr hT hy H
    refine ⟨fun h => (by rw [h] at hr; cases hr), fun j hj => ?_⟩
    by_cases hji : j = i
    · subst hji; exact hy.wpOp hi trivial ⟨tl hT, H⟩
    · have := ready_mono hj hji
      rw [H.1] at this
      cases this
  | succ n ih =>
    intro l a w hfree hr hT hy H
    refine ⟨fun h => (by rw [h] at hr; cases hr), fun j hj => ?_⟩
    by_cases hji : j = i
    · subst hji; exact hy.wpOp hi trivial ⟨tl hT, H⟩
    · have h1 := H.2 j (ready_mono hj hji)
      obtain ⟨hjun, oj, hoj, hall⟩ := mem_ready.1 hj
      have hnot : ∀ e ∈ oj.after, Region.binds md e = true → e.on ≠ i := fun e he hb heq => by
        have h1 := hall e he hb
        have h0 := (mem_ready.1 hr).1
        rw [heq] at h1
        rcases Nat.lt_or_ge i l.size with h' | h'
        · simp [h'] at h0 h1; rw [h0] at h1; cases h1
        · simp [Array.getElem?_eq_none h'] at h1
      have h2 := wpOp_putIf hoj (hfree j oj hoj hji hjun hnot) (fun cs b => hsel i oi cs b hi) (fun cs b => hsel j oj cs b hoj) hQ hy h1
      have hfree' : ∀ k ok, ops[k]? = some ok → k ≠ i → (l.setIfInBounds j true).getD k true = false →
          (∀ e ∈ ok.after, Region.binds md e = true → e.on ≠ i) → oi.apart ops ok = true := fun k ok hk hki hun hno => by
        refine hfree k ok hk hki ?_ hno
        by_cases hjk : j = k
        · subst hjk; exact hjun
        · rw [getD_set_ne true hjk] at hun; exact hun
      refine wpOp_mono (fun a' w' h3 => ?_) h2
      have e : (l.setIfInBounds i true).setIfInBounds j true = (l.setIfInBounds j true).setIfInBounds i true := Array.setIfInBounds_comm _ _ (Ne.symm hji)
      have hT' : Till st C (l.setIfInBounds j true) w' := lt (by rw [← e]; exact h3.2.1)
      refine ⟨hT', ih (l.setIfInBounds j true) a' w' hfree' (ready_mono hr (Ne.symm hji)) hT' h3.1 ?_⟩
      rw [← e]
      exact h3.2.2
/-- Number i, a load, is taken first. -/
theorem takeL {i d : Nat} {oi : Oper} {v : Value} {n : Nat} {l : Array Bool} {a : Act} {w : World} (hi : ops[i]? = some oi) (hd : oi.dst = some d)
    (hs : Region.noSelect ops = true) (hf : Region.free md ops l i = true) (hr : (Region.ready md ops l).contains i = true) (hst : waits md ops st i = true) (hist : st.contains i = false) (hls : (st.all fun j => l.getD j true == false) = true)
    (hQ : ∀ c d' v' a w, Q (.panic c) (a.put d' v') w → Q (.panic c) a w) (hw : Region.wanted oi (yielded ops a.tmps) = true) (hv : ∀ w, C w → (execOp a.eval oi).run P w = .ok (.value v) w) (hC : C w)
    (h : anyL P md ops Q (Till st C) n (l.setIfInBounds i true) (a.put (some d) v) w) : anyL P md ops Q (Till st C) (n + 1) l a w :=
  anyL_first hi (Region.noSelect_spec hs) (fun c a w => hQ c _ _ a w) hst (by simpa using hist) n l a w (Region.free_spec hi hf) (by simpa using hr) (fun j hj => by simpa using List.all_eq_true.1 hls j hj) (.inl ⟨hw, hv⟩) hC (by rw [hd]; exact h)
/-- Number i, which no world turns, is taken first. -/
theorem takeL0 {i d : Nat} {oi : Oper} {v : Value} {n : Nat} {l : Array Bool} {a : Act} {w : World} (hi : ops[i]? = some oi) (hd : oi.dst = some d)
    (hs : Region.noSelect ops = true) (hf : Region.free md ops l i = true) (hr : (Region.ready md ops l).contains i = true) (hist : st.contains i = false)
    (hQ : ∀ c d' v' a w, Q (.panic c) (a.put d' v') w → Q (.panic c) a w) (hw : Region.wanted oi (yielded ops a.tmps) = true) (hv : ∀ w, (execOp a.eval oi).run P w = .ok (.value v) w) (hT : Till st C l w)
    (h : anyL P md ops Q (Till st C) n (l.setIfInBounds i true) (a.put (some d) v) w) : anyL P md ops Q (Till st C) (n + 1) l a w :=
  anyL_first0 hi (Region.noSelect_spec hs) (fun c a w => hQ c _ _ a w) (by simpa using hist) n l a w (Region.free_spec hi hf) (by simpa using hr) hT (.inl ⟨hw, fun w _ => hv w⟩) (by rw [hd]; exact h)
/-- Number i comes up next, and nothing else can. -/
theorem nextL {i : Nat} {oi : Oper} {n : Nat} {l : Array Bool} {a : Act} {w : World} (hi : ops[i]? = some oi) (hr : Region.ready md ops l = [i])
    (h : ∀ K' : Act → World → Prop, Shut (∀ a w, Till st C (l.setIfInBounds i true) w → anyL P md ops Q (Till st C) n (l.setIfInBounds i true) a w → K' a w) → if Region.wanted oi (yielded ops a.tmps) = true then Oper.wp P oi a w K' Q else K' (a.put oi.dst undef) w) :
    anyL P md ops Q (Till st C) (n + 1) l a w :=
  anyL_ready hr (by simp) fun j hj => by
    obtain rfl : j = i := by simpa using hj
    exact wpOp_step hi (fun K' hK => h K' (fun a w hS hW => hK a w ⟨hS, hW⟩))
end
end Go.Proofs.YtnhifinfjfpoiaaGreat

namespace Go.Proofs.YtnhifinfjfpoiaaGreat
open Go.RowKit
section
variable {P : Program} {ops : Array Oper} {Q : Exit → Act → World → Prop} {md : Region.Mode} {st : List Nat} {C : World → Prop}
theorem pickL {i : Nat} {oi : Oper} {n : Nat} {l : Array Bool} {a : Act} {w : World} (hi : ops[i]? = some oi)
    (h : ∀ K' : Act → World → Prop, Shut (∀ a w, Till st C (l.setIfInBounds i true) w → anyL P md ops Q (Till st C) n (l.setIfInBounds i true) a w → K' a w) → if Region.wanted oi (yielded ops a.tmps) = true then Oper.wp P oi a w K' Q else K' (a.put oi.dst undef) w) :
    wpOp P ops Q i (fun a' w' => Till st C (l.setIfInBounds i true) w' ∧ anyL P md ops Q (Till st C) n (l.setIfInBounds i true) a' w') a w :=
  wpOp_step hi (fun K' hK => h K' (fun a w hS hW => hK a w ⟨hS, hW⟩))
/-- One of several comes up next. -/
theorem someL {n : Nat} {l : Array Bool} {a : Act} {w : World} {rs : List Nat} (hr : Region.ready md ops l = rs) (hne : rs ≠ [])
    (h : ∀ i ∈ rs, wpOp P ops Q i (fun a' w' => Till st C (l.setIfInBounds i true) w' ∧ anyL P md ops Q (Till st C) n (l.setIfInBounds i true) a' w') a w) :
    anyL P md ops Q (Till st C) (n + 1) l a w := anyL_ready hr hne h
theorem all_cons {p : Nat → Prop} {x : Nat} {l : List Nat} (h : p x) (k : ∀ i ∈ l, p i) : ∀ i ∈ x :: l, p i := fun i hi => by
  rcases List.mem_cons.1 hi with rfl | hi
  · exact h
  · exact k i hi
theorem all_nil {p : Nat → Prop} : ∀ i ∈ ([] : List Nat), p i := fun i hi => by cases hi
end
end Go.Proofs.YtnhifinfjfpoiaaGreat

namespace Go.Proofs.YtnhifinfjfpoiaaGreat
open Go.RowKit
section
variable {P : Program} {ops : Array Oper} {Q : Exit → Act → World → Prop} {md : Region.Mode} {st : List Nat} {C : World → Prop}
theorem pickW {i : Nat} {d : Option Nat} {op : Op} {t : TypeId} {p : String} {af : Array Edge} {g : Option (Nat × Bool)} {n : Nat} {l : Array Bool} {a : Act} {w : World} (hi : ops[i]? = some ⟨d, op, t, p, af, g⟩) (hw : Region.wanted ⟨d, op, t, p, af, g⟩ (yielded ops a.tmps) = true)
    (h : ∀ K' : Act → World → Prop, Shut (∀ a w, Till st C (l.setIfInBounds i true) w → anyL P md ops Q (Till st C) n (l.setIfInBounds i true) a w → K' a w) → Oper.wp P ⟨d, op, t, p, af, g⟩ a w K' Q) :
    wpOp P ops Q i (fun a' w' => Till st C (l.setIfInBounds i true) w' ∧ anyL P md ops Q (Till st C) n (l.setIfInBounds i true) a' w') a w :=
  pickL hi (fun K' hK => by rw [if_pos hw]; exact h K' hK)
theorem nextW {i : Nat} {d : Option Nat} {op : Op} {t : TypeId} {p : String} {af : Array Edge} {g : Option (Nat × Bool)} {n : Nat} {l : Array Bool} {a : Act} {w : World} (hi : ops[i]? = some ⟨d, op, t, p, af, g⟩) (hr : Region.ready md ops l = [i]) (hw : Region.wanted ⟨d, op, t, p, af, g⟩ (yielded ops a.tmps) = true)
    (h : ∀ K' : Act → World → Prop, Shut (∀ a w, Till st C (l.setIfInBounds i true) w → anyL P md ops Q (Till st C) n (l.setIfInBounds i true) a w → K' a w) → Oper.wp P ⟨d, op, t, p, af, g⟩ a w K' Q) :
    anyL P md ops Q (Till st C) (n + 1) l a w :=
  nextL hi hr (fun K' hK => by rw [if_pos hw]; exact h K' hK)
/-- Number i, which its guard leaves out. -/
theorem skipL {i d : Nat} {oi : Oper} {n : Nat} {l : Array Bool} {a : Act} {w : World} (hi : ops[i]? = some oi) (hd : oi.dst = some d)
    (hs : Region.noSelect ops = true) (hf : Region.free md ops l i = true) (hr : (Region.ready md ops l).contains i = true) (hist : st.contains i = false)
    (hQ : ∀ c d' v' a w, Q (.panic c) (a.put d' v') w → Q (.panic c) a w) (hw : Region.wanted oi (yielded ops a.tmps) = false) (hT : Till st C l w)
    (h : anyL P md ops Q (Till st C) n (l.setIfInBounds i true) (a.put (some d) undef) w) : anyL P md ops Q (Till st C) (n + 1) l a w :=
  anyL_first0 hi (Region.noSelect_spec hs) (fun c a w => hQ c _ _ a w) (by simpa using hist) n l a w (Region.free_spec hi hf) (by simpa using hr) hT (.inr ⟨hw, rfl⟩) (by rw [hd]; exact h)
end
end Go.Proofs.YtnhifinfjfpoiaaGreat

namespace Go.Proofs.YtnhifinfjfpoiaaGreat
open Go.RowKit
set_option linter.unusedVariables false
set_option linter.unusedSimpArgs false

def BoxL (b bl ol : Nat) (x0 x1 x2 x3 : Value) (y : Int) (W : World) : Prop := W.cell? ⟨b, 0, none⟩ = some x0 ∧ W.cell? ⟨b, 1, none⟩ = some x1 ∧ W.cell? ⟨b, 2, none⟩ = some x2 ∧ W.cell? ⟨b, 3, none⟩ = some x3 ∧ W.cell? ⟨bl, ol, none⟩ = some (.int .i64 y)
theorem natsI_nth {l : List Nat} {i : Nat} (hi : i < l.length) : nth (natsI l) i = ((l[i] : Nat) : Int) := by
  unfold natsI nth
  simp [List.getD_eq_getElem?_getD, hi]
theorem any_take {l : List Nat} {p : Nat → Bool} {i : Nat} (hi : i < l.length) : (l.take (i + 1)).any p = ((l.take i).any p || p l[i]) := by
  rw [List.take_succ_eq_append_getElem hi, List.any_append]; simp

set_option maxRecDepth 100000 in
set_option maxHeartbeats 4000000 in
theorem covers_any (c : Col) (r t u n : Value) (R g cap : Nat) (A : Nat → Bool) (lv : Value) (l : List Nat) (w : World) (hc : ColAt w w.heap.size r t u n c) (ok : OkCol c) (hR : R ≤ 3) (hA : BlBlk w g c.rooms.length A) (hl : IsInts w w.heap.size lv (natsI l)) (hin : ∀ x, x ∈ l → x < c.rooms.length) :
    Calls Tryz.prog 103 #[.agg #[r, t, u, n], .int .i64 R, .slice (some ⟨g, 0, none⟩) c.rooms.length cap, lv] w fun e w' => e = .returned (.bool (allB (fun h => !A h || l.any fun o => (reachN c o R).testBit h) c.rooms.length)) ∧ Below w.heap.size w w' := by
  have hBW : Below w.heap.size w (w.alloc (.cells #[r, t, u, n] 32)) := (Below.refl _ w).alloc (Nat.le_refl _) _
  have HC := Lib.hid (hc.on hBW)
  have HA := Lib.hid (hA.on hBW)
  have HL := Lib.hid ((hl.below hBW (Nat.le_refl _)).mono hBW.size)
  have hx : (w.alloc (.cells #[r, t, u, n] 32)).heap[w.heap.size]? = some (.cells #[r, t, u, n] 32 (0, 0)) := blk _ _ _ _ rfl
  obtain ⟨hr, htr, hu, hn⟩ := hc
  obtain ⟨ar, cr, rfl, _⟩ := hr.open
  obtain ⟨at_, ct, rfl, _⟩ := htr.open
  obtain ⟨au, cu, rfl, _⟩ := hu.open
  obtain ⟨an, cn, rfl, _⟩ := hn.open
  obtain ⟨al, cl, rfl, _, hl140, _⟩ := hl.open
  rw [natsI_len] at hl140
  have n6 := ok.houses.2
  have HB := Lib.hid hBW; have HX := Lib.hid hx; have HOK := Lib.hid ok; have HIN := Lib.hid hin
  rw [natsI_len]
  clear hr htr hu hn hBW hx ok hA hl hin
  go_enter Tryz.func103, Tryz.ntmps103
  go_wp2_with fail
  obtain ⟨W1, hW1⟩ : ∃ W1, w.alloc (.cells #[.slice ar c.rooms.length cr, .slice at_ c.traps.length ct, .slice au c.runs.length cu, .slice an c.nights.length cn] 32) = W1 := ⟨_, rfl⟩
  rw [hW1] at HC HB HX HA HL ⊢
  clear hW1
  go_loopw [9] (fun i wr => ∃ h : Nat, h ≤ c.rooms.length ∧ i = .int .i64 h ∧ Hid ((∀ j, j < h → (!A j || l.any fun o => (reachN c o R).testBit j) = true) ∧ Below W1.heap.size W1 wr)) (fun i _ => c.rooms.length - (intOf i).toNat)
  case atStart => exact ⟨0, Nat.zero_le _, rfl, fun j hj => by omega, Below.refl _ _⟩
  case round =>
    obtain ⟨h, hh, rfl, HR⟩ := hrel
    by_cases hlt : h < c.rooms.length
    · have hhi : (h : Int) < c.rooms.length := by omega
      have c1 := (HA.out.on HR.out.2).cell hlt
      obtain ⟨nA, hnA⟩ : ∃ nA, (!A h) = nA := ⟨_, rfl⟩
      have hA2 : A h = !nA := by rw [← hnA]; simp
      rw [hA2] at c1
      have HNA := Lib.hid hnA
      clear hA2 hnA
      go_wp2_with fail
      clear c1
      obtain ⟨wo, rfl⟩ : ∃ wo : World, wo = wr := ⟨_, rfl⟩
      go_loopw [10, 11] (fun mv i wq => ∃ k : Nat, k ≤ l.length ∧ i = .int .i64 k ∧ mv = .bool (nA || (l.take k).any fun o => (reachN c o R).testBit h) ∧ Hid (Below W1.heap.size W1 wq)) (fun _ i _ => l.length - (intOf i).toNat)
      case atStart => exact ⟨0, Nat.zero_le _, rfl, by simp, HR.out.2⟩
      case round =>
        obtain ⟨k, hk, rfl, rfl, HQ⟩ := hrel
        by_cases hkl : k < l.length
        · have hki : (k : Int) < l.length := by omega
          have HSU := Lib.hid (any_take (p := fun o => (reachN c o R).testBit h) hkl)
          go_upto_region 8 with (fail)
          cases hm : (nA || (l.take k).any fun o => (reachN c o R).testBit h)
          · obtain ⟨o, ho⟩ : ∃ o, l[k] = o := ⟨_, rfl⟩
            have hon := HIN.out o (by rw [← ho]; exact List.getElem_mem hkl)
            have hlw := (HL.out.below HQ.out (Nat.le_refl _)).mono HQ.out.size
            obtain ⟨xl, yl, el, _, _, hcl⟩ := hlw.open
            rw [natsI_len] at hcl el
            obtain ⟨bl, ol, e9, hbl, m1⟩ := hcl k hkl
            have e10 : al = xl := by injection el
            subst e10
            subst e9
            rw [natsI_nth hkl, ho] at m1
            have HD := Lib.hid HQ.out.drew
            obtain ⟨q0, q1, q2, q3⟩ := four_of (blk_on HX.out HQ.out.drew)
            have hC : BoxL w.heap.size bl (ol + k) (.slice ar c.rooms.length cr) (.slice at_ c.traps.length ct) (.slice au c.runs.length cu) (.slice an c.nights.length cn) o wr.drew := ⟨q0, q1, q2, q3, m1⟩
            have HV : Hid ((nA || (l.take (k + 1)).any fun o => (reachN c o R).testBit h) = (reachN c o R).testBit h) := by rw [HSU.out, ← Bool.or_assoc, hm, ho]; rfl
            clear hlw el hcl m1 hbl q0 q1 q2 q3 hm ho
            refine wp_region_noPanic ?_
            refine anyL_start (S := Till [] (BoxL w.heap.size bl (ol + k) (.slice ar c.rooms.length cr) (.slice at_ c.traps.length ct) (.slice au c.runs.length cu) (.slice an c.nights.length cn) o)) (by kernel_rfl) (fun _ => hC) (fun hT => ?_)
            refine takeL0 (i := 0) (d := 29) (v := ?_) rfl rfl (by kernel_rfl) (by kernel_rfl) (by kernel_rfl) (by kernel_rfl) (fun _ _ _ _ _ h => h) (by rfl) ?_ (fun _ => hC) ?_
            rotate_left
            · intro w
              go_simp
              try with_reducible rfl
            (try simp only [Act.put, List.setIfInBounds_toArray, List.set_cons_zero, List.set_cons_succ])
            refine takeL0 (i := 1) (d := 30) (v := ?_) rfl rfl (by kernel_rfl) (by kernel_rfl) (by kernel_rfl) (by kernel_rfl) (fun _ _ _ _ _ h => h) (by rfl) ?_ (fun _ => hC) ?_
            rotate_left
            · intro w
              go_simp
              try with_reducible rfl
            (try simp only [Act.put, List.setIfInBounds_toArray, List.set_cons_zero, List.set_cons_succ])
            refine takeL0 (i := 3) (d := 32) (v := ?_) rfl rfl (by kernel_rfl) (by kernel_rfl) (by kernel_rfl) (by kernel_rfl) (fun _ _ _ _ _ h => h) (by rfl) ?_ (fun _ => hC) ?_
            rotate_left
            · intro w
              go_simp
              try with_reducible rfl
            (try simp only [Act.put, List.setIfInBounds_toArray, List.set_cons_zero, List.set_cons_succ])
            refine takeL0 (i := 4) (d := 33) (v := ?_) rfl rfl (by kernel_rfl) (by kernel_rfl) (by kernel_rfl) (by kernel_rfl) (fun _ _ _ _ _ h => h) (by rfl) ?_ (fun _ => hC) ?_
            rotate_left
            · intro w
              go_simp
              try with_reducible rfl
            (try simp only [Act.put, List.setIfInBounds_toArray, List.set_cons_zero, List.set_cons_succ])
            refine takeL0 (i := 5) (d := 34) (v := ?_) rfl rfl (by kernel_rfl) (by kernel_rfl) (by kernel_rfl) (by kernel_rfl) (fun _ _ _ _ _ h => h) (by rfl) ?_ (fun _ => hC) ?_
            rotate_left
            · intro w
              go_simp
              try with_reducible rfl
            (try simp only [Act.put, List.setIfInBounds_toArray, List.set_cons_zero, List.set_cons_succ])
            refine takeL0 (i := 7) (d := 36) (v := ?_) rfl rfl (by kernel_rfl) (by kernel_rfl) (by kernel_rfl) (by kernel_rfl) (fun _ _ _ _ _ h => h) (by rfl) ?_ (fun _ => hC) ?_
            rotate_left
            · intro w
              go_simp
              try with_reducible rfl
            (try simp only [Act.put, List.setIfInBounds_toArray, List.set_cons_zero, List.set_cons_succ])
            refine takeL0 (i := 9) (d := 38) (v := ?_) rfl rfl (by kernel_rfl) (by kernel_rfl) (by kernel_rfl) (by kernel_rfl) (fun _ _ _ _ _ h => h) (by rfl) ?_ (fun _ => hC) ?_
            rotate_left
            · intro w
              go_simp
              try with_reducible rfl
            (try simp only [Act.put, List.setIfInBounds_toArray, List.set_cons_zero, List.set_cons_succ])
            refine takeL (i := 2) (d := 31) (v := ?_) rfl rfl (by kernel_rfl) (by kernel_rfl) (by kernel_rfl) (by kernel_rfl) (by kernel_rfl) (by kernel_rfl) (fun _ _ _ _ _ h => h) (by rfl) ?_ hC ?_
            rotate_left
            · intro w hSw
              (try dsimp only at hSw)
              obtain ⟨hS0, hS1, hS2, hS3, hS4⟩ := hSw
              go_simp
              try with_reducible rfl
            (try simp only [Act.put, List.setIfInBounds_toArray, List.set_cons_zero, List.set_cons_succ])
            refine takeL (i := 6) (d := 35) (v := ?_) rfl rfl (by kernel_rfl) (by kernel_rfl) (by kernel_rfl) (by kernel_rfl) (by kernel_rfl) (by kernel_rfl) (fun _ _ _ _ _ h => h) (by rfl) ?_ hC ?_
            rotate_left
            · intro w hSw
              (try dsimp only at hSw)
              obtain ⟨hS0, hS1, hS2, hS3, hS4⟩ := hSw
              go_simp
              try with_reducible rfl
            (try simp only [Act.put, List.setIfInBounds_toArray, List.set_cons_zero, List.set_cons_succ])
            refine nextW (i := 8) rfl (by kernel_rfl) (by rfl) (fun K hK => ?_)
            go_simp
            refine (rreaches_any c _ _ _ _ o R wr.drew (HC.out.on HD.out) HOK.out hon hR).mono ?_
            rintro e w5 ⟨g5, cap5, rfl, hcap5, hbl5, hg5, hb5⟩
            have c5 := hbl5.cell hlt
            have H5 := Lib.hid (HD.out.trans (hb5.mono HD.out.size))
            have hC2 : BoxL w.heap.size bl (ol + k) (.slice ar c.rooms.length cr) (.slice at_ c.traps.length ct) (.slice au c.runs.length cu) (.slice an c.nights.length cn) o w5 := by
              obtain ⟨p0, p1, p2, p3, p4⟩ := hC
              have key : ∀ (b o : Nat) (v : Value), wr.drew.cell? ⟨b, o, none⟩ = some v → w5.cell? ⟨b, o, none⟩ = some v := fun b o v e => (hb5.cell (p := ⟨b, o, none⟩) (block_lt_of_cell e)).trans e
              exact ⟨key _ _ _ p0, key _ _ _ p1, key _ _ _ p2, key _ _ _ p3, key _ _ _ p4⟩
            clear hC hbl5 hg5 hb5
            have hC := hC2
            clear hC2
            go_simp
            refine hK.out _ _ (fun _ => hC) ?_
            clear hK K
            (try simp only [Act.put, List.setIfInBounds_toArray, List.set_cons_zero, List.set_cons_succ])
            refine takeL0 (i := 10) (d := 39) (v := ?_) rfl rfl (by kernel_rfl) (by kernel_rfl) (by kernel_rfl) (by kernel_rfl) (fun _ _ _ _ _ h => h) (by rfl) ?_ (fun _ => hC) ?_
            rotate_left
            · intro w
              go_simp
              try with_reducible rfl
            (try simp only [Act.put, List.setIfInBounds_toArray, List.set_cons_zero, List.set_cons_succ])
            refine nextW (i := 11) rfl (by kernel_rfl) (by rfl) (fun K hK => ?_)
            go_simp
            refine hK.out _ _ (fun _ => hC) ?_
            clear hK K
            (try simp only [Act.put, List.setIfInBounds_toArray, List.set_cons_zero, List.set_cons_succ])
            refine takeL0 (i := 12) (d := 41) (v := ?_) rfl rfl (by kernel_rfl) (by kernel_rfl) (by kernel_rfl) (by kernel_rfl) (fun _ _ _ _ _ h => h) (by rfl) ?_ (fun _ => hC) ?_
            rotate_left
            · intro w
              go_simp
              try with_reducible rfl
            (try simp only [Act.put, List.setIfInBounds_toArray, List.set_cons_zero, List.set_cons_succ])
            refine takeL0 (i := 13) (d := 10) (v := ?_) rfl rfl (by kernel_rfl) (by kernel_rfl) (by kernel_rfl) (by kernel_rfl) (fun _ _ _ _ _ h => h) (by rfl) ?_ (fun _ => hC) ?_
            rotate_left
            · intro w
              go_simp
              try with_reducible rfl
            (try simp only [Act.put, List.setIfInBounds_toArray, List.set_cons_zero, List.set_cons_succ])
            refine anyL_done (by kernel_rfl) ?_ _
            refine NoPanic.normal ?_
            clear hC hT c5
            go_wp2_with fail
            go_roundw
            case rel => exact ⟨k + 1, by omega, by go_num, by rw [HV.out], H5⟩
            case measure => simp [intOf]; omega
          · have HV : Hid ((nA || (l.take (k + 1)).any fun o => (reachN c o R).testBit h) = true) := by rw [HSU.out, ← Bool.or_assoc, hm]; rfl
            have HD := Lib.hid HQ.out.drew
            have hC : True ∧ True := ⟨trivial, trivial⟩
            clear hm
            refine wp_region_noPanic ?_
            refine anyL_start (S := Till [] (fun _ => True ∧ True)) (by kernel_rfl) (fun _ => hC) (fun hT => ?_)
            refine takeL0 (i := 0) (d := 29) (v := ?_) rfl rfl (by kernel_rfl) (by kernel_rfl) (by kernel_rfl) (by kernel_rfl) (fun _ _ _ _ _ h => h) (by rfl) ?_ (fun _ => hC) ?_
            rotate_left
            · intro w
              go_simp
              try with_reducible rfl
            (try simp only [Act.put, List.setIfInBounds_toArray, List.set_cons_zero, List.set_cons_succ])
            refine takeL0 (i := 1) (d := 30) (v := ?_) rfl rfl (by kernel_rfl) (by kernel_rfl) (by kernel_rfl) (by kernel_rfl) (fun _ _ _ _ _ h => h) (by rfl) ?_ (fun _ => hC) ?_
            rotate_left
            · intro w
              go_simp
              try with_reducible rfl
            (try simp only [Act.put, List.setIfInBounds_toArray, List.set_cons_zero, List.set_cons_succ])
            refine skipL (i := 2) (d := 31) rfl rfl (by kernel_rfl) (by kernel_rfl) (by kernel_rfl) (by kernel_rfl) (fun _ _ _ _ _ h => h) (by rfl) (fun _ => hC) ?_
            (try simp only [Act.put, List.setIfInBounds_toArray, List.set_cons_zero, List.set_cons_succ])
            refine skipL (i := 3) (d := 32) rfl rfl (by kernel_rfl) (by kernel_rfl) (by kernel_rfl) (by kernel_rfl) (fun _ _ _ _ _ h => h) (by rfl) (fun _ => hC) ?_
            (try simp only [Act.put, List.setIfInBounds_toArray, List.set_cons_zero, List.set_cons_succ])
            refine skipL (i := 4) (d := 33) rfl rfl (by kernel_rfl) (by kernel_rfl) (by kernel_rfl) (by kernel_rfl) (fun _ _ _ _ _ h => h) (by rfl) (fun _ => hC) ?_
            (try simp only [Act.put, List.setIfInBounds_toArray, List.set_cons_zero, List.set_cons_succ])
            refine skipL (i := 5) (d := 34) rfl rfl (by kernel_rfl) (by kernel_rfl) (by kernel_rfl) (by kernel_rfl) (fun _ _ _ _ _ h => h) (by rfl) (fun _ => hC) ?_
            (try simp only [Act.put, List.setIfInBounds_toArray, List.set_cons_zero, List.set_cons_succ])
            refine skipL (i := 6) (d := 35) rfl rfl (by kernel_rfl) (by kernel_rfl) (by kernel_rfl) (by kernel_rfl) (fun _ _ _ _ _ h => h) (by rfl) (fun _ => hC) ?_
            (try simp only [Act.put, List.setIfInBounds_toArray, List.set_cons_zero, List.set_cons_succ])
            refine skipL (i := 7) (d := 36) rfl rfl (by kernel_rfl) (by kernel_rfl) (by kernel_rfl) (by kernel_rfl) (fun _ _ _ _ _ h => h) (by rfl) (fun _ => hC) ?_
            (try simp only [Act.put, List.setIfInBounds_toArray, List.set_cons_zero, List.set_cons_succ])
            refine skipL (i := 8) (d := 37) rfl rfl (by kernel_rfl) (by kernel_rfl) (by kernel_rfl) (by kernel_rfl) (fun _ _ _ _ _ h => h) (by rfl) (fun _ => hC) ?_
            (try simp only [Act.put, List.setIfInBounds_toArray, List.set_cons_zero, List.set_cons_succ])
            refine skipL (i := 9) (d := 38) rfl rfl (by kernel_rfl) (by kernel_rfl) (by kernel_rfl) (by kernel_rfl) (fun _ _ _ _ _ h => h) (by rfl) (fun _ => hC) ?_
            (try simp only [Act.put, List.setIfInBounds_toArray, List.set_cons_zero, List.set_cons_succ])
            refine skipL (i := 10) (d := 39) rfl rfl (by kernel_rfl) (by kernel_rfl) (by kernel_rfl) (by kernel_rfl) (fun _ _ _ _ _ h => h) (by rfl) (fun _ => hC) ?_
            (try simp only [Act.put, List.setIfInBounds_toArray, List.set_cons_zero, List.set_cons_succ])
            refine skipL (i := 11) (d := 40) rfl rfl (by kernel_rfl) (by kernel_rfl) (by kernel_rfl) (by kernel_rfl) (fun _ _ _ _ _ h => h) (by rfl) (fun _ => hC) ?_
            (try simp only [Act.put, List.setIfInBounds_toArray, List.set_cons_zero, List.set_cons_succ])
            refine takeL0 (i := 12) (d := 41) (v := ?_) rfl rfl (by kernel_rfl) (by kernel_rfl) (by kernel_rfl) (by kernel_rfl) (fun _ _ _ _ _ h => h) (by rfl) ?_ (fun _ => hC) ?_
            rotate_left
            · intro w
              go_simp
              try with_reducible rfl
            (try simp only [Act.put, List.setIfInBounds_toArray, List.set_cons_zero, List.set_cons_succ])
            refine takeL0 (i := 13) (d := 10) (v := ?_) rfl rfl (by kernel_rfl) (by kernel_rfl) (by kernel_rfl) (by kernel_rfl) (fun _ _ _ _ _ h => h) (by rfl) ?_ (fun _ => hC) ?_
            rotate_left
            · intro w
              go_simp
              try with_reducible rfl
            (try simp only [Act.put, List.setIfInBounds_toArray, List.set_cons_zero, List.set_cons_succ])
            refine anyL_done (by kernel_rfl) ?_ _
            refine NoPanic.normal ?_
            clear hC hT
            go_wp2_with fail
            go_roundw
            case rel => exact ⟨k + 1, by omega, by go_num, by rw [HV.out], HD⟩
            case measure => simp [intOf]; omega
        · obtain rfl : k = l.length := by omega
          rw [List.take_length]
          cases hm : (nA || l.any fun o => (reachN c o R).testBit h)
          · have HF : Hid (allB (fun h => !A h || l.any fun o => (reachN c o R).testBit h) c.rooms.length = false) := by
              rw [Bool.eq_false_iff]
              intro q
              have := allB_iff.1 q h hlt
              rw [HNA.out, hm] at this
              cases this
            have HP := Lib.hid (HB.out.trans (HQ.out.mono HB.out.size))
            clear hm
            go_wp2_with fail
            go_ret
            exact ⟨ret_bool HF.out.symm, HP.out⟩
          · have HN : Hid ((∀ j, j < h + 1 → (!A j || l.any fun o => (reachN c o R).testBit j) = true) ∧ Below W1.heap.size W1 wr) := ⟨fun j hj => by
              by_cases e : j = h
              · subst e; rw [HNA.out]; exact hm
              · exact HR.out.1 j (by omega), HQ.out⟩
            clear hm
            go_wp2_with fail
            go_roundw
            case rel => exact ⟨h + 1, by omega, by go_num, HN⟩
            case measure => simp [intOf]; omega
    · obtain rfl : h = c.rooms.length := by omega
      have HT : Hid (allB (fun h => !A h || l.any fun o => (reachN c o R).testBit h) c.rooms.length = true) := allB_iff.2 HR.out.1
      have HP := Lib.hid (HB.out.trans (HR.out.2.mono HB.out.size))
      go_wp2_with fail
      go_ret
      exact ⟨ret_bool HT.out.symm, HP.out⟩
end Go.Proofs.YtnhifinfjfpoiaaGreat

namespace Go.Proofs.YtnhifinfjfpoiaaGreat
open Go.RowKit
set_option linter.unusedVariables false
set_option linter.unusedSimpArgs false

def covB (c : Col) (R : Nat) (A : Nat → Bool) (l : List Nat) : Bool := allB (fun h => !A h || l.any fun o => (reachN c o R).testBit h) c.rooms.length
/-- No bait in house h reaches both. -/
def apartH (c : Col) (R : Nat) (l : List Nat) (i k h : Nat) : Bool := !((reachN c h R).testBit (l.getD i 0) && (reachN c h R).testBit (l.getD k 0))
def apartK (c : Col) (R : Nat) (l : List Nat) (i k : Nat) : Bool := allB (apartH c R l i k) c.rooms.length
def sepI (c : Col) (R : Nat) (A : Nat → Bool) (l : List Nat) (i : Nat) : Bool := A (l.getD i 0) && allB (apartK c R l i) i
def sepB (c : Col) (R : Nat) (A : Nat → Bool) (l : List Nat) : Bool := allB (sepI c R A l) l.length
theorem allB_no {p : Nat → Bool} {n i : Nat} (hi : i < n) (h : p i = false) : allB p n = false := by
  rw [Bool.eq_false_iff]
  intro q
  rw [allB_iff.1 q i hi] at h
  cases h

set_option maxRecDepth 100000 in
set_option maxHeartbeats 4000000 in
theorem separate_any (c : Col) (r t u n : Value) (R g cap : Nat) (A : Nat → Bool) (lv : Value) (l : List Nat) (w : World) (hc : ColAt w w.heap.size r t u n c) (ok : OkCol c) (hR : R ≤ 3) (hA : BlBlk w g c.rooms.length A) (hl : IsInts w w.heap.size lv (natsI l)) (hin : ∀ x, x ∈ l → x < c.rooms.length) :
    Calls Tryz.prog 102 #[.agg #[r, t, u, n], .int .i64 R, .slice (some ⟨g, 0, none⟩) c.rooms.length cap, lv] w fun e w' => e = .returned (.bool (sepB c R A l)) ∧ Below w.heap.size w w' := by
  have hBW : Below w.heap.size w (w.alloc (.cells #[r, t, u, n] 32)) := (Below.refl _ w).alloc (Nat.le_refl _) _
  have HC := Lib.hid (hc.on hBW)
  have HA := Lib.hid (hA.on hBW)
  have HL := Lib.hid ((hl.below hBW (Nat.le_refl _)).mono hBW.size)
  have hx : (w.alloc (.cells #[r, t, u, n] 32)).heap[w.heap.size]? = some (.cells #[r, t, u, n] 32 (0, 0)) := blk _ _ _ _ rfl
  obtain ⟨hr, htr, hu, hn⟩ := hc
  obtain ⟨ar, cr, rfl, _⟩ := hr.open
  obtain ⟨at_, ct, rfl, _⟩ := htr.open
  obtain ⟨au, cu, rfl, _⟩ := hu.open
  obtain ⟨an, cn, rfl, _⟩ := hn.open
  obtain ⟨al, cl, rfl, _, hl140, _⟩ := hl.open
  rw [natsI_len] at hl140
  have n6 := ok.houses.2
  have HB := Lib.hid hBW; have HX := Lib.hid hx; have HOK := Lib.hid ok; have HIN := Lib.hid hin
  rw [natsI_len]
  clear hr htr hu hn hBW hx ok hA hl hin
  go_enter Tryz.func102, Tryz.ntmps102
  go_wp2_with fail
  obtain ⟨W1, hW1⟩ : ∃ W1, w.alloc (.cells #[.slice ar c.rooms.length cr, .slice at_ c.traps.length ct, .slice au c.runs.length cu, .slice an c.nights.length cn] 32) = W1 := ⟨_, rfl⟩
  rw [hW1] at HC HB HX HA HL ⊢
  clear hW1
  have HLC : Hid (∀ W, Below W1.heap.size W1 W → ∀ k, k < l.length → ∃ bl ol, al = some ⟨bl, ol, none⟩ ∧ W.cell? ⟨bl, ol + k, none⟩ = some (.int .i64 ((l.getD k 0 : Nat) : Int))) := fun W hW k hk => by
    have hlw := (HL.out.below hW (Nat.le_refl _)).mono hW.size
    obtain ⟨xl, yl, el, _, _, hcl⟩ := hlw.open
    rw [natsI_len] at hcl el
    obtain ⟨bl, ol, e9, hbl, m1⟩ := hcl k hk
    have e10 : al = xl := by injection el
    subst e10
    refine ⟨bl, ol, e9, ?_⟩
    rw [m1, natsI_nth hk, List.getD_eq_getElem?_getD, List.getElem?_eq_getElem hk]; rfl
  have HLN : Hid (∀ k, k < l.length → l.getD k 0 < c.rooms.length) := fun k hk => HIN.out _ (by rw [List.getD_eq_getElem?_getD, List.getElem?_eq_getElem hk]; exact List.getElem_mem hk)
  go_loopw [9] (fun i wr => ∃ i' : Nat, i' ≤ l.length ∧ i = .int .i64 i' ∧ Hid ((∀ j, j < i' → sepI c R A l j = true) ∧ Below W1.heap.size W1 wr)) (fun i _ => l.length - (intOf i).toNat)
  case atStart => exact ⟨0, Nat.zero_le _, rfl, fun j hj => by omega, Below.refl _ _⟩
  case round =>
    obtain ⟨i, hi, rfl, HR⟩ := hrel
    by_cases hil : i < l.length
    · have hii : (i : Int) < l.length := by omega
      obtain ⟨bl, ol, eal, m1⟩ := HLC.out wr HR.out.2 i hil
      subst eal
      obtain ⟨li, hli⟩ : ∃ li, l.getD i 0 = li := ⟨_, rfl⟩
      have hln := HLN.out i hil
      rw [hli] at m1 hln
      have hlni : (li : Int) < c.rooms.length := by omega
      have c1 := (HA.out.on HR.out.2).cell hln
      have HLI := Lib.hid hli
      clear hli
      cases hA1 : A li
      · rw [hA1] at c1
        have HF : Hid (sepB c R A l = false) := allB_no hil (by unfold sepI; rw [HLI.out, hA1]; rfl)
        have HP := Lib.hid (HB.out.trans (HR.out.2.mono HB.out.size))
        clear hA1
        go_wp2_with fail
        go_ret
        exact ⟨ret_bool HF.out.symm, HP.out⟩
      · rw [hA1] at c1
        have HA1 := Lib.hid hA1
        clear hA1
        go_wp2_with fail
        clear c1 m1
        obtain ⟨wo, rfl⟩ : ∃ wo : World, wo = wr := ⟨_, rfl⟩
        go_loopw [10] (fun kv wq => ∃ k : Nat, k ≤ i ∧ kv = .int .i64 k ∧ Hid ((∀ j, j < k → apartK c R l i j = true) ∧ Below W1.heap.size W1 wq)) (fun kv _ => i - (intOf kv).toNat)
        case atStart => exact ⟨0, Nat.zero_le _, rfl, fun j hj => by omega, HR.out.2⟩
        case round =>
          obtain ⟨k, hk, rfl, HK⟩ := hrel
          by_cases hki : k < i
          · have hkii : (k : Int) < i := by omega
            go_wp2_with fail
            obtain ⟨wo2, rfl⟩ : ∃ wo2 : World, wo2 = wr := ⟨_, rfl⟩
            go_loopw [11] (fun hv wq => ∃ h : Nat, h ≤ c.rooms.length ∧ hv = .int .i64 h ∧ Hid ((∀ j, j < h → apartH c R l i k j = true) ∧ Below W1.heap.size W1 wq)) (fun hv _ => c.rooms.length - (intOf hv).toNat)
            case atStart => exact ⟨0, Nat.zero_le _, rfl, fun j hj => by omega, HK.out.2⟩
            case round =>
              obtain ⟨h, hh, rfl, HH⟩ := hrel
              by_cases hhn : h < c.rooms.length
              · have hhi : (h : Int) < c.rooms.length := by omega
                obtain ⟨q0, q1, q2, q3⟩ := four_of (blk_on HX.out HH.out.2)
                go_wp2_with fail
                refine (rreaches_any c _ _ _ _ h R wr (HC.out.on HH.out.2) HOK.out hhn hR).mono ?_
                rintro e w5 ⟨g5, cap5, rfl, hcap5, hbl5, hg5, hb5⟩
                have hw5 := HH.out.2.trans (hb5.mono HH.out.2.size)
                obtain ⟨bl1, ol1, ea1, m1⟩ := HLC.out w5 hw5 i hil
                obtain ⟨bl2, ol2, ea2, m2⟩ := HLC.out w5 hw5 k (by omega)
                cases ea1
                cases ea2
                obtain ⟨lk, hlk⟩ : ∃ lk, l.getD k 0 = lk := ⟨_, rfl⟩
                have hlkn := HLN.out k (by omega)
                rw [hlk] at m2 hlkn
                rw [HLI.out] at m1
                have hlki : (lk : Int) < c.rooms.length := by omega
                have d1 := hbl5.cell hln
                have d2 := hbl5.cell hlkn
                have H5 := Lib.hid hw5
                have HLK := Lib.hid hlk
                clear hlk hw5 hbl5 hg5 hb5 q0 q1 q2 q3
                cases hb1 : (reachN c h R).testBit li
                · rw [hb1] at d1
                  have HV : Hid (apartH c R l i k h = true) := by unfold apartH; rw [HLI.out, hb1]; rfl
                  clear hb1
                  go_wp2_with fail
                  go_roundw
                  case rel => exact ⟨h + 1, by omega, by go_num, fun j hj => by
                    by_cases e : j = h
                    · subst e; exact HV.out
                    · exact HH.out.1 j (by omega), H5.out⟩
                  case measure => simp [intOf]; omega
                · rw [hb1] at d1
                  cases hb2 : (reachN c h R).testBit lk
                  · rw [hb2] at d2
                    have HV : Hid (apartH c R l i k h = true) := by unfold apartH; rw [HLI.out, HLK.out, hb1, hb2]; rfl
                    clear hb1 hb2
                    go_wp2_with fail
                    go_roundw
                    case rel => exact ⟨h + 1, by omega, by go_num, fun j hj => by
                      by_cases e : j = h
                      · subst e; exact HV.out
                      · exact HH.out.1 j (by omega), H5.out⟩
                    case measure => simp [intOf]; omega
                  · rw [hb2] at d2
                    have hV : apartH c R l i k h = false := by unfold apartH; rw [HLI.out, HLK.out, hb1, hb2]; rfl
                    have HF : Hid (sepB c R A l = false) := allB_no hil (by unfold sepI; rw [allB_no hki (show apartK c R l i k = false from allB_no hhn hV)]; simp)
                    have HP := Lib.hid (HB.out.trans (H5.out.mono HB.out.size))
                    clear hb1 hb2 hV
                    go_wp2_with fail
                    go_ret
                    exact ⟨ret_bool HF.out.symm, HP.out⟩
              · obtain rfl : h = c.rooms.length := by omega
                have HV : Hid (apartK c R l i k = true) := allB_iff.2 HH.out.1
                go_wp2_with fail
                go_roundw
                case rel => exact ⟨k + 1, by omega, by go_num, fun j hj => by
                  by_cases e : j = k
                  · subst e; exact HV.out
                  · exact HK.out.1 j (by omega), HH.out.2⟩
                case measure => simp [intOf]; omega
          · obtain rfl : k = i := by omega
            have HV : Hid (sepI c R A l k = true) := by unfold sepI; rw [HLI.out, HA1.out, allB_iff.2 HK.out.1]; rfl
            go_wp2_with fail
            go_roundw
            case rel => exact ⟨k + 1, by omega, by go_num, fun j hj => by
              by_cases e : j = k
              · subst e; exact HV.out
              · exact HR.out.1 j (by omega), HK.out.2⟩
            case measure => simp [intOf]; omega
    · obtain rfl : i = l.length := by omega
      have HT : Hid (sepB c R A l = true) := allB_iff.2 HR.out.1
      have HP := Lib.hid (HB.out.trans (HR.out.2.mono HB.out.size))
      go_wp2_with fail
      go_ret
      exact ⟨ret_bool HT.out.symm, HP.out⟩
end Go.Proofs.YtnhifinfjfpoiaaGreat

namespace Go.Proofs.YtnhifinfjfpoiaaGreat
open Go.RowKit
set_option linter.unusedVariables false
set_option linter.unusedSectionVars false

/-- A part of memory: the blocks on which it rests, and what is told of them. -/
structure Part where
  foot : Nat → Prop
  told : World → Prop
  stable : ∀ w w' : World, (∀ k, foot k → w'.heap[k]? = w.heap[k]?) → told w → told w'
/-- Parts apart from each other, all at B or above. -/
structure Sep (w : World) (B : Nat) (ps : List Part) : Prop where
  told : ∀ (i : Nat) (x : Part), ps[i]? = some x → x.told w
  lt : ∀ (i : Nat) (x : Part), ps[i]? = some x → ∀ k, x.foot k → B ≤ k ∧ k < w.heap.size
  apart : ∀ (i j : Nat) (x y : Part), ps[i]? = some x → ps[j]? = some y → ∀ k, x.foot k → y.foot k → i = j
theorem Sep.nil (w : World) (B : Nat) : Sep w B [] := ⟨fun i x h => by simp at h, fun i x h => by simp at h, fun i j x y h => by simp at h⟩
theorem Sep.at {w : World} {B : Nat} {ps : List Part} (h : Sep w B ps) (i : Nat) {x : Part} (hi : ps[i]? = some x) : x.told w := h.told i x hi
/-- Part i turns, and nothing else that stood. -/
theorem Sep.set' {w w' : World} {B : Nat} {ps : List Part} (h : Sep w B ps) (i : Nat) {x : Part} (hi : ps[i]? = some x) (x' : Part) (hs : w.heap.size ≤ w'.heap.size) (hB : B ≤ w.heap.size)
    (hf : ∀ k, B ≤ k → k < w.heap.size → ¬ x.foot k → w'.heap[k]? = w.heap[k]?) (ht : x'.told w') (hx : ∀ k, x'.foot k → x.foot k ∨ (w.heap.size ≤ k ∧ k < w'.heap.size)) : Sep w' B (ps.set i x') := by
  have key : ∀ (j : Nat) (y : Part), (ps.set i x')[j]? = some y → (j = i ∧ y = x') ∨ (j ≠ i ∧ ps[j]? = some y) := fun j y hj => by
    rw [List.getElem?_set] at hj
    by_cases e : i = j
    · subst e
      rw [if_pos rfl] at hj
      split at hj
      · simp only [Option.some.injEq] at hj; exact .inl ⟨rfl, hj.symm⟩
      · cases hj
    · rw [if_neg e] at hj; exact .inr ⟨fun e2 => e e2.symm, hj⟩
  refine ⟨fun j y hj => ?_, fun j y hj k hk => ?_, fun a b y z ha hb k hy hz => ?_⟩
  · rcases key j y hj with ⟨_, rfl⟩ | ⟨hne, hj⟩
    · exact ht
    · exact y.stable w w' (fun k hk => hf k (h.lt j y hj k hk).1 (h.lt j y hj k hk).2 (fun hxk => hne (h.apart j i y x hj hi k hk hxk))) (h.told j y hj)
  · rcases key j y hj with ⟨_, rfl⟩ | ⟨hne, hj⟩
    · rcases hx k hk with q | q
      · have := h.lt i x hi k q; omega
      · omega
    · have := h.lt j y hj k hk; omega
  · rcases key a y ha with ⟨ea, rfl⟩ | ⟨hne, ha2⟩ <;> rcases key b z hb with ⟨eb, rfl⟩ | ⟨hne2, hb2⟩
    · omega
    · rcases hx k hy with q | q
      · exact absurd (h.apart i b x z hi hb2 k q hz).symm hne2
      · have := h.lt b z hb2 k hz; omega
    · rcases hx k hz with q | q
      · exact absurd (h.apart a i y x ha2 hi k hy q) hne
      · have := h.lt a y ha2 k hy; omega
    · exact h.apart a b y z ha2 hb2 k hy hz
theorem Sep.set {w w' : World} {B : Nat} {ps : List Part} (h : Sep w B ps) (i : Nat) {x : Part} (hi : ps[i]? = some x) (x' : Part) (hs : w.heap.size ≤ w'.heap.size) (hB : B ≤ w.heap.size)
    (hf : ∀ k, k < w.heap.size → ¬ x.foot k → w'.heap[k]? = w.heap[k]?) (ht : x'.told w') (hx : ∀ k, x'.foot k → x.foot k ∨ (w.heap.size ≤ k ∧ k < w'.heap.size)) : Sep w' B (ps.set i x') :=
  h.set' i hi x' hs hB (fun k _ h1 h2 => hf k h1 h2) ht hx
theorem Sep.keep {w w' : World} {B : Nat} {ps : List Part} (h : Sep w B ps) (hs : w.heap.size ≤ w'.heap.size) (hf : ∀ k, B ≤ k → k < w.heap.size → w'.heap[k]? = w.heap[k]?) : Sep w' B ps :=
  ⟨fun i x hi => x.stable w w' (fun k hk => hf k (h.lt i x hi k hk).1 (h.lt i x hi k hk).2) (h.told i x hi), fun i x hi k hk => by have := h.lt i x hi k hk; omega, h.apart⟩
theorem Sep.below {w w' : World} {B : Nat} {ps : List Part} (h : Sep w B ps) (hb : Below w.heap.size w w') : Sep w' B ps := h.keep hb.size fun k _ hk => hb.block k hk
theorem Sep.drew {w : World} {B : Nat} {ps : List Part} (h : Sep w B ps) : Sep w.drew B ps := h.below (Below.refl _ _).drew
/-- A new part. -/
theorem Sep.push {w w' : World} {B : Nat} {ps : List Part} (h : Sep w B ps) (x' : Part) (hb : Below w.heap.size w w') (hB : B ≤ w.heap.size) (ht : x'.told w') (hx : ∀ k, x'.foot k → w.heap.size ≤ k ∧ k < w'.heap.size) : Sep w' B (ps ++ [x']) := by
  have hs := hb.size
  have key : ∀ (j : Nat) (y : Part), (ps ++ [x'])[j]? = some y → (j = ps.length ∧ y = x') ∨ (j < ps.length ∧ ps[j]? = some y) := fun j y hj => by
    by_cases e : j < ps.length
    · rw [List.getElem?_append_left e] at hj; exact .inr ⟨e, hj⟩
    · rw [List.getElem?_append_right (by omega)] at hj
      by_cases e2 : j = ps.length
      · subst e2; simp at hj; exact .inl ⟨rfl, hj.symm⟩
      · rw [List.getElem?_eq_none (by simp; omega)] at hj; cases hj
  refine ⟨fun j y hj => ?_, fun j y hj k hk => ?_, fun a b y z ha hb k hy hz => ?_⟩
  · rcases key j y hj with ⟨_, rfl⟩ | ⟨_, hj⟩
    · exact ht
    · exact (h.below hb).told j y hj
  · rcases key j y hj with ⟨_, rfl⟩ | ⟨_, hj⟩
    · have := hx k hk; omega
    · have := h.lt j y hj k hk; omega
  · rcases key a y ha with ⟨ea, rfl⟩ | ⟨e1, ha2⟩ <;> rcases key b z hb with ⟨eb, rfl⟩ | ⟨e2, hb2⟩
    · omega
    · have a1 := hx k hy; have a2 := h.lt b z hb2 k hz; omega
    · have a1 := hx k hz; have a2 := h.lt a y ha2 k hy; omega
    · exact h.apart a b y z ha2 hb2 k hy hz
/-- Parts i and j, taken as one. -/
def Part.and (x y : Part) : Part := ⟨fun k => x.foot k ∨ y.foot k, fun w => x.told w ∧ y.told w, fun w w' hk h => ⟨x.stable w w' (fun k h1 => hk k (.inl h1)) h.1, y.stable w w' (fun k h1 => hk k (.inr h1)) h.2⟩⟩
/-- A part of which nothing is told. -/
def Part.none : Part := ⟨fun _ => False, fun _ => True, fun _ _ _ _ => trivial⟩
theorem Sep.join {w : World} {B : Nat} {ps : List Part} (h : Sep w B ps) (i j : Nat) {x y : Part} (hi : ps[i]? = some x) (hj : ps[j]? = some y) (hij : i ≠ j) : Sep w B ((ps.set i (x.and y)).set j Part.none) := by
  have key : ∀ (a : Nat) (z : Part), ((ps.set i (x.and y)).set j Part.none)[a]? = some z → (a = j ∧ z = Part.none) ∨ (a = i ∧ z = x.and y) ∨ (a ≠ i ∧ a ≠ j ∧ ps[a]? = some z) := fun a z ha => by
    rw [List.getElem?_set] at ha
    by_cases e : j = a
    · rw [if_pos e] at ha
      split at ha
      · simp only [Option.some.injEq] at ha; exact .inl ⟨e.symm, ha.symm⟩
      · cases ha
    · rw [if_neg e, List.getElem?_set] at ha
      by_cases e2 : i = a
      · rw [if_pos e2] at ha
        split at ha
        · simp only [Option.some.injEq] at ha; exact .inr (.inl ⟨e2.symm, ha.symm⟩)
        · cases ha
      · rw [if_neg e2] at ha; exact .inr (.inr ⟨fun q => e2 q.symm, fun q => e q.symm, ha⟩)
  refine ⟨fun a z ha => ?_, fun a z ha k hk => ?_, fun a b z z' ha hb k hz hz' => ?_⟩
  · rcases key a z ha with ⟨_, rfl⟩ | ⟨_, rfl⟩ | ⟨_, _, ha⟩
    · exact trivial
    · exact ⟨h.told i x hi, h.told j y hj⟩
    · exact h.told a z ha
  · rcases key a z ha with ⟨_, rfl⟩ | ⟨_, rfl⟩ | ⟨_, _, ha⟩
    · exact hk.elim
    · rcases hk with hk | hk
      · exact h.lt i x hi k hk
      · exact h.lt j y hj k hk
    · exact h.lt a z ha k hk
  · rcases key a z ha with ⟨_, rfl⟩ | ⟨ea, rfl⟩ | ⟨a1, a2, ha⟩
    · exact hz.elim
    · rcases key b z' hb with ⟨_, rfl⟩ | ⟨eb, rfl⟩ | ⟨b1, b2, hb⟩
      · exact hz'.elim
      · omega
      · rcases hz with hz | hz
        · exact absurd (h.apart i b x z' hi hb k hz hz').symm b1
        · exact absurd (h.apart j b y z' hj hb k hz hz').symm b2
    · rcases key b z' hb with ⟨_, rfl⟩ | ⟨eb, rfl⟩ | ⟨b1, b2, hb⟩
      · exact hz'.elim
      · rcases hz' with hz' | hz'
        · exact absurd (h.apart a i z x ha hi k hz hz') a1
        · exact absurd (h.apart a j z y ha hj k hz hz') a2
      · exact h.apart a b z z' ha hb k hz hz'
/-- A block of cells. -/
def pBlk (b t : Nat) (cs : Array Value) : Part := ⟨fun k => k = b, fun w => w.heap[b]? = some (.cells cs t (0, 0)), fun w w' hk h => (hk b rfl).trans h⟩
theorem owns_eq {w w' : World} {B e sz n : Nat} {v : Value} {xs : List Value} (h : w.ownsRow B e sz v n xs) (hk : ∀ k, v.ownBlock = some k → w'.heap[k]? = w.heap[k]?) : w'.ownsRow B e sz v n xs := by
  refine ⟨h.1, ?_⟩
  rcases h.2 with h2 | ⟨g, cap, cur, rfl, hb, hg, hr⟩
  · exact .inl h2
  · exact .inr ⟨g, cap, cur, rfl, hb, (hk g rfl).trans hg, hr⟩
/-- A row of one's own. -/
def pRow (B e sz n : Nat) (v : Value) (xs : List Value) : Part := ⟨fun k => v.ownBlock = some k, fun w => w.ownsRow B e sz v n xs, fun w w' hk h => owns_eq h hk⟩
theorem Sep.setBlk {w : World} {B : Nat} {ps : List Part} (h : Sep w B ps) (hB : B ≤ w.heap.size) (i : Nat) {b t : Nat} {cs : Array Value} (hi : ps[i]? = some (pBlk b t cs)) (o : Nat) (x : Value) : Sep (w.setCell ⟨b, o, none⟩ x) B (ps.set i (pBlk b t (cs.setIfInBounds o x))) :=
  h.set i hi _ (by simp) hB (fun k _ hk => Below.heap_setCell _ _ _ _ hk) (heap_setCell_same w b _ _ _ _ (h.at i hi)) (fun k hk => .inl hk)
theorem Sep.grown {w w' : World} {B : Nat} {ps : List Part} (h : Sep w B ps) (hB : B ≤ w.heap.size) (i : Nat) {B' e sz n : Nat} {v : Value} {xs : List Value} (hi : ps[i]? = some (pRow B' e sz n v xs)) {n' : Nat} {v' : Value} {xs' : List Value} (ho : w'.ownsRow B' e sz v' n' xs') (hg : w.grownBy w' v.ownBlock)
    (hv : v'.ownBlock = v.ownBlock ∨ v'.ownBlock = some w.heap.size) : Sep w' B (ps.set i (pRow B' e sz n' v' xs')) :=
  h.set i hi _ hg.size hB (fun k hk hne => hg.block k hk (fun q => hne q.symm)) ho (fun k hk => by
    have hk' : v'.ownBlock = some k := hk
    rcases hv with q | q
    · exact .inl (show v.ownBlock = some k by rw [← q]; exact hk')
    · rw [q] at hk'
      simp only [Option.some.injEq] at hk'
      have := (ho.lt k hk).2
      exact .inr ⟨by omega, this⟩)
theorem Sep.newBlk {w : World} {B : Nat} {ps : List Part} (h : Sep w B ps) (hB : B ≤ w.heap.size) (t : Nat) (cs : Array Value) : Sep (w.alloc (.cells cs t)) B (ps ++ [pBlk w.heap.size t cs]) :=
  h.push _ ((Below.refl _ _).alloc (Nat.le_refl _) _) hB (heap_alloc_new _ _) (fun k hk => by
    have : k = w.heap.size := hk
    subst this; simp)
theorem Sep.newRow {w : World} {B : Nat} {ps : List Part} (h : Sep w B ps) (hB : B ≤ w.heap.size) (B' e sz : Nat) : Sep w B (ps ++ [pRow B' e sz 0 (.slice none 0 0) []]) :=
  h.push _ (Below.refl _ _) hB (World.ownsRow_nil _ _ _ _) (fun k hk => by cases (show Value.ownBlock (.slice none 0 0) = some k from hk))
theorem Sep.left {W : World} {B : Nat} {ps qs : List Part} (h : Sep W B (ps ++ qs)) : Sep W B ps := by
  have key : ∀ (i : Nat) (x : Part), ps[i]? = some x → (ps ++ qs)[i]? = some x := fun i x hi => by
    rw [List.getElem?_append_left (List.getElem?_eq_some_iff.1 hi).1]; exact hi
  exact ⟨fun i x hi => h.told i x (key i x hi), fun i x hi => h.lt i x (key i x hi), fun i j x y hi hj => h.apart i j x y (key i x hi) (key j y hj)⟩
theorem pick_at (ps : List Part) (is : List Nat) {j : Nat} {x : Part} (h : (is.map fun i => (ps[i]?).getD Part.none)[j]? = some x) : ∃ i, is[j]? = some i ∧ (ps[i]? = some x ∨ (ps[i]? = none ∧ x = Part.none)) := by
  rw [List.getElem?_map] at h
  cases hj : is[j]? with
  | none => rw [hj] at h; cases h
  | some i =>
    rw [hj] at h
    simp only [Option.map_some, Option.some.injEq] at h
    refine ⟨i, rfl, ?_⟩
    cases hp : ps[i]? with
    | none => rw [hp] at h; exact .inr ⟨rfl, h.symm⟩
    | some y => rw [hp] at h; exact .inl (by rw [← h]; rfl)
theorem Sep.pick {W : World} {ps : List Part} {B : Nat} (h : Sep W B ps) (is : List Nat) (hn : is.Nodup) : Sep W B (is.map fun i => (ps[i]?).getD Part.none) := by
  refine ⟨fun j x hj => ?_, fun j x hj k hk => ?_, fun a b x y ha hb k hx hy => ?_⟩
  · obtain ⟨i, _, h1 | ⟨_, rfl⟩⟩ := pick_at ps is hj
    · exact h.told i x h1
    · exact trivial
  · obtain ⟨i, _, h1 | ⟨_, rfl⟩⟩ := pick_at ps is hj
    · exact h.lt i x h1 k hk
    · exact hk.elim
  · obtain ⟨i, hi, h1 | ⟨_, rfl⟩⟩ := pick_at ps is ha
    · obtain ⟨j, hj, h2 | ⟨_, rfl⟩⟩ := pick_at ps is hb
      · have e := h.apart i j x y h1 h2 k hx hy
        subst e
        obtain ⟨la, ea⟩ := List.getElem?_eq_some_iff.1 hi
        obtain ⟨lb, eb⟩ := List.getElem?_eq_some_iff.1 hj
        have hp := List.pairwise_iff_getElem.1 hn
        rcases Nat.lt_trichotomy a b with q | q | q
        · exact absurd (ea.trans eb.symm) (hp a b la lb q)
        · exact q
        · exact absurd (eb.trans ea.symm) (hp b a lb la q)
      · exact hy.elim
    · exact hx.elim
theorem intsV_snoc (l : List Int) (y : Int) : intsV (l ++ [y]) = intsV l ++ [.int .i64 y] := by simp [intsV]
theorem Sep.setRow {w : World} {B : Nat} {ps : List Part} (h : Sep w B ps) (hB : B ≤ w.heap.size) (i : Nat) {B' e sz n g cap : Nat} {xs : List Value} (hi : ps[i]? = some (pRow B' e sz n (.slice (some ⟨g, 0, none⟩) n cap) xs)) (o : Nat) (x : Value) : Sep (w.setCell ⟨g, o, none⟩ x) B (ps.set i (pRow B' e sz n (.slice (some ⟨g, 0, none⟩) n cap) (xs.set o x))) :=
  h.set i hi _ (by simp) hB (fun k _ hk => Below.heap_setCell _ _ _ _ (fun e => hk (congrArg some e.symm))) ((World.ownsRow.stored (h.at i hi) o x).1) (fun k hk => .inl hk)
structure PW (w W : World) (ps : List Part) : Prop where
  sep : Sep W w.heap.size ps
  low : Below w.heap.size w W
section
variable {w W W' : World} {ps ps' qs : List Part}
theorem PW.start (w : World) : PW w w [] := ⟨Sep.nil _ _, Below.refl _ _⟩
theorem PW.size (h : PW w W ps) : w.heap.size ≤ W.heap.size := h.low.size
theorem PW.hi (h : PW w W ps) (hb : Below w.heap.size W W') (hs : Sep W' w.heap.size ps') : PW w W' ps' := ⟨hs, h.low.trans hb⟩
theorem PW.below (h : PW w W ps) (hb : Below W.heap.size W W') : PW w W' ps := ⟨h.sep.below hb, h.low.trans (hb.mono h.size)⟩
theorem PW.drew (h : PW w W ps) : PW w W.drew ps := h.below (Below.refl _ _).drew
theorem PW.drewN (h : PW w W ps) (m : Nat) : PW w (W.drewN m) ps := h.below (Below.drewN (Below.refl _ _) m)
theorem PW.alloc (h : PW w W ps) (o : _) : PW w (W.alloc o) ps := h.below ((Below.refl _ _).alloc (Nat.le_refl _) o)
theorem PW.at (h : PW w W ps) (i : Nat) {x : Part} (hi : ps[i]? = some x) : x.told W := h.sep.told i x hi
theorem PW.same (h : PW w W ps) (e : ps = ps') : PW w W ps' := e ▸ h
theorem PW.setPart (h : PW w W ps) (i : Nat) {x : Part} (hi : ps[i]? = some x) (x' : Part) (hb : Below w.heap.size W W') (hf : ∀ k, w.heap.size ≤ k → k < W.heap.size → ¬ x.foot k → W'.heap[k]? = W.heap[k]?) (ht : x'.told W') (hx : ∀ k, x'.foot k → x.foot k ∨ (W.heap.size ≤ k ∧ k < W'.heap.size)) : PW w W' (ps.set i x') :=
  h.hi hb (h.sep.set' i hi x' hb.size h.size hf ht hx)
theorem PW.ge (h : PW w W ps) (i : Nat) {x : Part} (hi : ps[i]? = some x) {k : Nat} (hk : x.foot k) : w.heap.size ≤ k ∧ k < W.heap.size := h.sep.lt i x hi k hk
theorem PW.setBlk (h : PW w W ps) (i : Nat) {b t : Nat} {cs : Array Value} (hi : ps[i]? = some (pBlk b t cs)) (o : Nat) (x : Value) : PW w (W.setCell ⟨b, o, none⟩ x) (ps.set i (pBlk b t (cs.setIfInBounds o x))) :=
  h.hi ((Below.refl _ _).setCell (p := ⟨b, o, none⟩) (h.ge i hi (k := b) rfl).1 _) (h.sep.setBlk h.size i hi o x)
theorem PW.newBlk (h : PW w W ps) (t : Nat) (cs : Array Value) : PW w (W.alloc (.cells cs t)) (ps ++ [pBlk W.heap.size t cs]) :=
  h.hi ((Below.refl _ _).alloc h.size _) (h.sep.newBlk h.size t cs)
theorem PW.newRow (h : PW w W ps) (B e sz : Nat) : PW w W (ps ++ [pRow B e sz 0 (.slice none 0 0) []]) :=
  h.hi (Below.refl _ _) (h.sep.newRow h.size B e sz)
theorem PW.push (h : PW w W ps) (x' : Part) (hb : Below W.heap.size W W') (ht : x'.told W') (hx : ∀ k, x'.foot k → W.heap.size ≤ k ∧ k < W'.heap.size) : PW w W' (ps ++ [x']) :=
  (h.below hb).hi (Below.refl _ _) (h.sep.push x' hb h.size ht hx)
theorem PW.part (h : PW w W ps) (i : Nat) {x : Part} (hi : ps[i]? = some x) (x' : Part) (ht : x'.told W) (hx : ∀ k, x'.foot k → x.foot k) : PW w W (ps.set i x') :=
  h.hi (Below.refl _ _) (h.sep.set i hi x' (Nat.le_refl _) h.size (fun _ _ _ => rfl) ht (fun k hk => .inl (hx k hk)))
theorem PW.left (h : PW w W (ps ++ qs)) : PW w W ps := h.hi (Below.refl _ _) h.sep.left
theorem Sep.both {B : Nat} (h : Sep W B ps) (hb : Below W.heap.size W W') (hB : B ≤ W.heap.size) (k : Sep W' W.heap.size qs) : Sep W' B (ps ++ qs) := by
  have hs := hb.size
  have key : ∀ (j : Nat) (y : Part), (ps ++ qs)[j]? = some y → (j < ps.length ∧ ps[j]? = some y) ∨ (ps.length ≤ j ∧ qs[j - ps.length]? = some y) := fun j y hj => by
    by_cases e : j < ps.length
    · rw [List.getElem?_append_left e] at hj; exact .inl ⟨e, hj⟩
    · rw [List.getElem?_append_right (by omega)] at hj; exact .inr ⟨by omega, hj⟩
  refine ⟨fun j y hj => ?_, fun j y hj i hi => ?_, fun a b y z ha hb' i hy hz => ?_⟩
  · rcases key j y hj with ⟨_, hj⟩ | ⟨_, hj⟩
    · exact (h.below hb).told j y hj
    · exact k.told _ y hj
  · rcases key j y hj with ⟨_, hj⟩ | ⟨_, hj⟩
    · have := h.lt j y hj i hi; omega
    · have := k.lt _ y hj i hi; omega
  · rcases key a y ha with ⟨_, ha2⟩ | ⟨ea, ha2⟩ <;> rcases key b z hb' with ⟨_, hb2⟩ | ⟨eb, hb2⟩
    · exact h.apart a b y z ha2 hb2 i hy hz
    · have a1 := h.lt a y ha2 i hy; have a2 := k.lt _ z hb2 i hz; omega
    · have a1 := k.lt _ y ha2 i hy; have a2 := h.lt b z hb2 i hz; omega
    · have := k.apart _ _ y z ha2 hb2 i hy hz; omega
/-- What a call made, apart from each other. -/
theorem PW.both (h : PW w W ps) (hb : Below W.heap.size W W') (k : Sep W' W.heap.size qs) : PW w W' (ps ++ qs) := (h.below hb).hi (Below.refl _ _) (h.sep.both hb h.size k)
/-- Some of the parts, in another order. -/
theorem PW.pick (h : PW w W ps) (is : List Nat) (hn : is.Nodup) (e : (is.map fun i => (ps[i]?).getD Part.none) = ps') : PW w W ps' := e ▸ h.hi (Below.refl _ _) (h.sep.pick is hn)
theorem PW.pushOne (h : PW w W ps) (x : Int) : PW w (W.alloc (.cells #[.int .i64 x] 3)) (ps ++ [pRow W.heap.size 3 1 1 (.slice (some ⟨W.heap.size, 0, none⟩) 1 1) (intsV [x])]) :=
  h.push _ ((Below.refl _ _).alloc (Nat.le_refl _) _) ⟨rfl, .inr ⟨W.heap.size, 1, #[.int .i64 x], rfl, Nat.le_refl _, heap_alloc_new _ _, Nat.le_refl _, by unfold maxLen; omega, rfl, rfl⟩⟩ (fun k hk => by
    have hk' : W.heap.size = k := Option.some.inj hk
    subst hk'
    simp)
theorem PW.grown (h : PW w W ps) (i : Nat) {B' e sz n : Nat} {u : Value} {l : List Value} (hi : ps[i]? = some (pRow B' e sz n u l)) {g m cap : Nat} {l' : List Value} (ho : W'.ownsRow B' e sz (.slice (some ⟨g, 0, none⟩) m cap) m l') (hg : W.grownBy W' u.ownBlock) (hor : u.ownBlock = some g ∨ g = W.heap.size) :
    PW w W' (ps.set i (pRow B' e sz m (.slice (some ⟨g, 0, none⟩) m cap) l')) :=
  h.hi (below_grown (Below.refl _ W) hg (fun r hr => (h.ge i hi (k := r) hr).1) h.size) (h.sep.grown h.size i hi ho hg (hor.imp (fun e => e.symm) (fun e => by rw [e]; rfl)))
/-- A cell of a row of one's own is set. -/
theorem PW.setRow (h : PW w W ps) (i : Nat) {B e sz n g cap : Nat} {l : List Value} (hi : ps[i]? = some (pRow B e sz n (.slice (some ⟨g, 0, none⟩) n cap) l)) (o : Nat) (x : Value) : PW w (W.setCell ⟨g, o, none⟩ x) (ps.set i (pRow B e sz n (.slice (some ⟨g, 0, none⟩) n cap) (l.set o x))) :=
  ⟨by have := h.sep.setRow h.size i hi o x; simpa using this, h.low.setCell (p := ⟨g, o, none⟩) (h.ge i hi (k := g) rfl).1 _⟩
end
theorem PW.step_int {w W : World} {ps : List Part} (h : PW w W ps) (i : Nat) {B n : Nat} {u : Value} (l : List Int) (y : Int) (hi : ps[i]? = some (pRow B 3 1 n u (intsV l))) (hB : B ≤ W.heap.size) (hn : n ≤ 1000)
    {ops : Array Oper} {o : Oper} {a : Act} {Q : Exit → Act → World → Prop} {K : Act → World → Prop} {E : Prop} (hgd : o.guard = none) (s x : Operand) (ho : o.op = .call { callee := .builtin .append, args := #[s, x], argTypes := #[22, 22] }) (hs : a.eval s = u) (gb : Nat) (hx : a.eval x = .slice (some ⟨gb, 0, none⟩) 1 1)
    (hc : ∀ (j : Nat) (z : Value), ([.int .i64 y] : List Value)[j]? = some z → W.cell? ((⟨gb, 0, none⟩ : Addr).add j) = some z)
    (hk : ∀ g cap w', PW w w' (ps.set i (pRow B 3 1 (n + 1) (.slice (some ⟨g, 0, none⟩) (n + 1) cap) (intsV (l ++ [y])))) → Below w.heap.size W w' → W.grownBy w' u.ownBlock → K (a.put o.dst (.slice (some ⟨g, 0, none⟩) (n + 1) cap)) w') :
    if Region.wanted o (yielded ops a.tmps) = true then Oper.wp Tryz.prog o a W K Q else E := by
  obtain ⟨i0, hif, hz0, hz1, hz2⟩ := info_parts infoInt
  exact step_append_lies W hgd s x 22 ho B 3 i0 (.int .i64 0) 1 8 Tryz.underlying22 hif hz0 hz1 hz2 rfl (by decide) u n (intsV l) hs (h.at i hi) ⟨gb, 0, none⟩ 1 1 [.int .i64 y] hx rfl hc (fun u hu => by simp at hu; subst hu; rfl) (by omega) (by unfold maxLen; omega) (by omega) hB W.heap.size rfl (fun g cap w' ho hg hor _ =>
    hk g cap w' (h.grown i hi (by rw [intsV_snoc]; exact ho) hg hor) (below_grown (Below.refl _ W) hg (fun r hr => (h.ge i hi (k := r) hr).1) h.size) hg)
theorem PW.list_int {w W : World} {ps : List Part} (h : PW w W ps) (i : Nat) {B n : Nat} {u : Value} (l : List Int) (y : Int) (hi : ps[i]? = some (pRow B 3 1 n u (intsV l))) (hB : B ≤ W.heap.size) (hn : n ≤ 1000)
    {ops : Array Oper} {o : Oper} {a : Act} {Q : Exit → Act → World → Prop} {rest : List Oper} (hgd : o.guard = none) (s x : Operand) (ho : o.op = .call { callee := .builtin .append, args := #[s, x], argTypes := #[22, 22] }) (hs : a.eval s = u) (gb : Nat) (hx : a.eval x = .slice (some ⟨gb, 0, none⟩) 1 1)
    (hc : ∀ (j : Nat) (z : Value), ([.int .i64 y] : List Value)[j]? = some z → W.cell? ((⟨gb, 0, none⟩ : Addr).add j) = some z)
    (hk : ∀ g cap w', PW w w' (ps.set i (pRow B 3 1 (n + 1) (.slice (some ⟨g, 0, none⟩) (n + 1) cap) (intsV (l ++ [y])))) → Below w.heap.size W w' → W.grownBy w' u.ownBlock → wpList Tryz.prog ops Q rest (a.put o.dst (.slice (some ⟨g, 0, none⟩) (n + 1) cap)) w') :
    wpList Tryz.prog ops Q (o :: rest) a W := by
  obtain ⟨i0, hif, hz0, hz1, hz2⟩ := info_parts infoInt
  exact wpList_append_lies W hgd s x 22 ho B 3 i0 (.int .i64 0) 1 8 Tryz.underlying22 hif hz0 hz1 hz2 rfl (by decide) u n (intsV l) hs (h.at i hi) ⟨gb, 0, none⟩ 1 1 [.int .i64 y] hx rfl hc (fun u hu => by simp at hu; subst hu; rfl) (by omega) (by unfold maxLen; omega) (by omega) hB W.heap.size rfl (fun g cap w' ho hg hor _ =>
    hk g cap w' (h.grown i hi (by rw [intsV_snoc]; exact ho) hg hor) (below_grown (Below.refl _ W) hg (fun r hr => (h.ge i hi (k := r) hr).1) h.size) hg)
end Go.Proofs.YtnhifinfjfpoiaaGreat

namespace Go.Proofs.YtnhifinfjfpoiaaGreat
open Go.RowKit
set_option linter.unusedVariables false

theorem step_append_or {P : Program} {w : World} {ops : Array Oper} {o : Oper} {a : Act} {K : Act → World → Prop} {Q : Exit → Act → World → Prop} {E : Prop} (hgd : o.guard = none) (s x : Operand) (t : TypeId)
    (ho : o.op = .call { callee := .builtin .append, args := #[s, x], argTypes := #[t, t] })
    (base : Nat) (e : TypeId) (i : TypeInfo) (z : Value) (size bytes : Nat) (ht : P.underlying t = some (.slice e)) (hi : P.info? e = some i) (hz : i.zero = some z)
    (hsize : i.size = size) (hby : i.bytes = bytes) (hzs : z.cells.size = size) (hsz : 0 < size)
    (g0 n q0 : Nat) (xs : List Value) (hs : a.eval s = .slice (some ⟨g0, 0, none⟩) n q0) (hown : w.ownsRow base e size (.slice (some ⟨g0, 0, none⟩) n q0) n xs)
    (ad : Option Addr) (m c : Nat) (hmc : m ≤ c) (news : List Value) (hx : a.eval x = .slice ad m c) (hl : news.length = m * size) (hnews : 0 < m → ∃ b off, ad = some ⟨b, off, none⟩ ∧ ∀ j u, news[j]? = some u → w.cell? ((⟨b, off, none⟩ : Addr).add j) = some u) (h1 : ∀ u ∈ news, u.oneCell' = true)
    (h63 : n + m ≤ maxLen) (hbytes : (n + m) * bytes ≤ 140737488355328) (hbase : base ≤ w.heap.size)
    (h : ∀ g cap w', w'.ownsRow base e size (.slice (some ⟨g, 0, none⟩) (n + m) cap) (n + m) (xs ++ news) → w.grownBy w' (some g0) → (g = g0 ∨ g = w.heap.size) → K (a.put o.dst (.slice (some ⟨g, 0, none⟩) (n + m) cap)) w') :
    if Region.wanted o (yielded ops a.tmps) = true then Oper.wp P o a w K Q else E := by
  rcases Nat.eq_zero_or_pos m with h0 | h0
  · subst h0
    have hw : Region.wanted o (yielded ops a.tmps) = true := by simp [Region.wanted, hgd]
    rw [if_pos hw]
    have hn0 : news = [] := List.length_eq_zero_iff.1 (by omega)
    subst hn0
    have hcap : n ≤ q0 := by
      rcases hown.2 with ⟨hc, _⟩ | ⟨g, cap, cur, hc, _, _, hnc, _⟩
      · cases hc
      · cases hc; exact hnc
    have hsrc : Src P i.size t (.slice ad 0 c) 0 [] w := by
      refine ⟨.inl ⟨e, ht⟩, fun w' => ?_, ?_, ?_, by simp, by simp⟩
      · simp [Builtin.lenOf]
      · cases ad <;> simp [Builtin.firstCells, loadCells, loadCellsFrom]
      · cases ad <;> simp [Builtin.firstCells, loadCells, loadCellsFrom]
    have hrun := run_append_nothing (P := P) w t t o.type e i ht hi (some ⟨g0, 0, none⟩) n q0 hcap (.slice ad 0 c) hsrc
    unfold Oper.wp
    simp [execOp, ho, resolve, invoke, builtin, hs, hx, hrun, Result.andThen]
    have := h g0 q0 w (by simpa using hown) ⟨rfl, rfl, rfl, Nat.le_refl _, fun _ _ _ => rfl⟩ (.inl rfl)
    show K (a.put o.dst (.slice (some ⟨g0, 0, none⟩) n q0)) w
    simpa using this
  · obtain ⟨b, off, rfl, hc⟩ := hnews h0
    exact step_append_lies (w := w) hgd s x t ho base e i z size bytes ht hi hz hsize hby hzs hsz (.slice (some ⟨g0, 0, none⟩) n q0) n xs hs hown ⟨b, off, none⟩ m c news hx hl hc h1 h0 h63 hbytes hbase w.heap.size rfl (fun g cap w' h2 h3 h4 _ => h g cap w' h2 h3 (h4.imp (fun e => by have : some g0 = some g := e; cases this; rfl) id))
end Go.Proofs.YtnhifinfjfpoiaaGreat
