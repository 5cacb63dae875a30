/- As in Mix; but behind the operations N the condition S need not hold any more: each of them waits for every operation that is taken. Over any program. -/
import Derived.Test.YtoefpnmfeaimlaaMix
namespace Go.Proofs.Ytoefpnmfeaimlaa
section
variable {P : Program} {ops : Array Oper} {S : World → Prop} {Q : Exit → Act → World → Prop} {N : List Nat}

/-- Whatever order is picked; S holds behind every operation but those of N. -/
def wpAnyN (P : Program) (ops : Array Oper) (Q : Exit → Act → World → Prop) (S : World → Prop) (N : List Nat) : Nat → Array Bool → Act → World → Prop
  | 0, listed, a, w => Region.ready .any ops listed = [] ∧ Q .normal a w
  | n + 1, listed, a, w => (Region.ready .any ops listed = [] → Q .normal a w) ∧ ∀ i ∈ Region.ready .any ops listed, wpOp P ops Q i (fun a' w' => (N.contains i = false → S w') ∧ wpAnyN P ops Q S N n (listed.setIfInBounds i true) a' w') a w
theorem wpAny_of_n : ∀ (n : Nat) (listed : Array Bool) (a : Act) (w : World), wpAnyN P ops Q S N n listed a w → wpAny P .any ops Q n listed a w
  | 0, _, _, _, h => h
  | n + 1, _, _, _, h => ⟨h.1, fun i hi => wpOp_mono (fun a' w' k => wpAny_of_n n _ a' w' k.2) (h.2 i hi)⟩
/-- Every operation of N waits for i. -/
def waitsB (ops : Array Oper) (N : List Nat) (i : Nat) : Bool := !N.contains i && N.all fun j => match ops[j]? with
  | some o => o.after.any fun e => Region.binds .any e && e.on == i
  | none => true
theorem waits_spec {i j : Nat} (h : waitsB ops N i = true) (hj : N.contains j = true) {o : Oper} (ho : ops[j]? = some o) : ∃ e ∈ o.after, Region.binds .any e = true ∧ e.on = i := by
  unfold waitsB at h
  simp only [Bool.and_eq_true, List.all_eq_true] at h
  have := h.2 j (by simpa using hj)
  simp only [ho] at this
  obtain ⟨e, he, hb⟩ := Array.any_eq_true'.1 this
  simp only [Bool.and_eq_true, beq_iff_eq] at hb
  exact ⟨e, he, hb.1, hb.2⟩
theorem listed_false {listed : Array Bool} {i : Nat} (h0 : listed.getD i true = false) (h1 : listed.getD i false = true) : False := by
  rcases Nat.lt_or_ge i listed.size with h' | h'
  · simp [h'] at h0 h1; rw [h0] at h1; cases h1
  · simp [Array.getElem?_eq_none h'] at h1

theorem wpAnyN_take (hsel : Region.noSelect ops = true) {i : Nat} {oi : Oper} {v : Value} (hi : ops[i]? = some oi) (hN : waitsB ops N i = true) :
    ∀ (n : Nat) (listed : Array Bool) (a : Act) (w : World),
      (∀ j oj, ops[j]? = some oj → j ≠ i → listed.getD j true = false → (∀ e ∈ oj.after, Region.binds .any e = true → e.on ≠ i) → oi.apart ops oj = true) →
      i ∈ Region.ready .any ops listed → YieldsIf P ops S oi v a → S w →
      wpAnyN P ops (NoPanic Q) S N n (listed.setIfInBounds i true) (a.put oi.dst v) w → wpAnyN P ops (NoPanic Q) S N (n + 1) listed a w := by
  have hNi : N.contains i = false := by
    unfold waitsB at hN
    simp only [Bool.and_eq_true, Bool.not_eq_true'] at hN
    exact hN.1
  have hS2 := Region.noSelect_spec hsel
  intro n
  induction n with
  | zero =>
    intro listed a w _ hr hy hS H
    refine ⟨fun h => (by rw [h] at hr; cases hr), fun j hj => ?_⟩
    by_cases e : j = i
    · subst e; exact hy.wpOp hi hS ⟨fun _ => hS, H⟩
    · have := ready_mono hj e
      rw [H.1] at this
      cases this
  | succ n ih =>
    intro listed a w hfree hr hy hS H
    refine ⟨fun h => (by rw [h] at hr; cases hr), fun j hj => ?_⟩
    by_cases e : j = i
    · subst e; exact hy.wpOp hi hS ⟨fun _ => hS, H⟩
    · have h1 := H.2 j (ready_mono hj e)
      obtain ⟨hjun, oj, hoj, hall⟩ := mem_ready.1 hj
      have hnot : ∀ e ∈ oj.after, Region.binds .any e = true → e.on ≠ i := fun e he hb heq =>
        listed_false (mem_ready.1 hr).1 (heq ▸ hall e he hb)
      have hjN : N.contains j = false := by
        cases hc : N.contains j with
        | false => rfl
        | true =>
          obtain ⟨e, he, hb, heq⟩ := waits_spec hN hc hoj
          exact absurd heq (hnot e he hb)
      have h2 := wpOp_putIf hoj (hfree j oj hoj e hjun hnot) (fun cs b => hS2 i oi cs b hi) (fun cs b => hS2 j oj cs b hoj) (fun c a w hq => hq.elim) hy h1
      refine wpOp_mono (fun a' w' h3 => ⟨fun _ => h3.2.1 hjN, ih (listed.setIfInBounds j true) a' w' ?_ (ready_mono hr (Ne.symm e)) h3.1 (h3.2.1 hjN) ?_⟩) h2
      · intro k ok hk hki hun hno
        refine hfree k ok hk hki ?_ hno
        by_cases hjk : j = k
        · subst hjk; exact hjun
        · rw [getD_set_ne true hjk] at hun; exact hun
      · rw [Array.setIfInBounds_comm _ _ e]
        exact h3.2.2

/-- The walk in the order L; behind the operations N nothing is to be shown of S. -/
def wpMixN (P : Program) (ops : Array Oper) (S : World → Prop) (N : List Nat) (Q : Exit → Act → World → Prop) : List (Bool × Nat) → Act → World → Prop
  | [], a, w => Q .normal a w
  | (true, i) :: rest, a, w => ∃ o v, ops[i]? = some o ∧ S w ∧ YieldsIf P ops S o v a ∧ wpMixN P ops S N Q rest (a.put o.dst v) w
  | (false, i) :: rest, a, w => ∃ o, ops[i]? = some o ∧ if Region.wanted o (yielded ops a.tmps) then o.wp P a w (fun a' w' => (N.contains i = false → S w') ∧ wpMixN P ops S N Q rest a' w') (NoPanic Q) else (N.contains i = false → S w) ∧ wpMixN P ops S N Q rest (a.put o.dst undef) w
def mixesNB (ops : Array Oper) (N : List Nat) : List (Bool × Nat) → Array Bool → Bool
  | [], listed => (Region.ready .any ops listed).isEmpty
  | (true, i) :: l, listed => Region.free .any ops listed i && (Region.ready .any ops listed).contains i && waitsB ops N i && mixesNB ops N l (listed.setIfInBounds i true)
  | (false, i) :: l, listed => (Region.ready .any ops listed == [i]) && mixesNB ops N l (listed.setIfInBounds i true)
def mixesNOk (ops : Array Oper) (N : List Nat) (L : List (Bool × Nat)) : Bool :=
  Region.noSelect ops && mixesNB ops N L (Array.replicate ops.size false) && decide (L.length = ops.size)
theorem wpAnyN_mix (hsel : Region.noSelect ops = true) : ∀ (L : List (Bool × Nat)) (listed : Array Bool) (a : Act) (w : World), mixesNB ops N L listed = true → wpMixN P ops S N Q L a w → wpAnyN P ops (NoPanic Q) S N L.length listed a w
  | [], listed, a, w, hB, h => by
    refine ⟨?_, h⟩
    simpa [mixesNB] using hB
  | (true, i) :: L, listed, a, w, hB, h => by
    simp only [mixesNB, Bool.and_eq_true] at hB
    obtain ⟨⟨⟨hf, hr⟩, hw⟩, hB⟩ := hB
    obtain ⟨o, v, ho, hS, hy, h⟩ := h
    exact wpAnyN_take hsel ho hw _ _ _ _ (Region.free_spec ho hf) (by simpa using hr) hy hS (wpAnyN_mix hsel L _ _ w hB h)
  | (false, i) :: L, listed, a, w, hB, h => by
    simp only [mixesNB, Bool.and_eq_true, beq_iff_eq] at hB
    obtain ⟨hr, hB⟩ := hB
    refine ⟨fun h0 => (by rw [hr] at h0; cases h0), ?_⟩
    rw [hr]
    intro j hj
    have hj : j = i := by simpa using hj
    subst hj
    obtain ⟨o, ho, h⟩ := h
    unfold wpOp
    simp only [ho]
    split
    · rename_i hw
      rw [if_pos hw] at h
      exact .inl (Oper.wp_mono (fun a' w' ⟨hs, hc⟩ => ⟨hs, wpAnyN_mix hsel L _ a' w' hB hc⟩) h)
    · rename_i hw
      rw [if_neg hw] at h
      exact ⟨h.1, wpAnyN_mix hsel L _ _ w hB h.2⟩

/-- **A region that draws its order**, in the order L. -/
theorem wp_region_mixesN {id : Nat} {a : Act} {w : World} (S : World → Prop) (N : List Nat) (L : List (Bool × Nat)) (hm : P.follows .mixedOrders = true) (hB : mixesNOk ops N L = true)
    (h : wpMixN P ops S N Q L a w.drew) : (Code.region id ops true).wp P Q a w := by
  simp only [mixesNOk, Bool.and_eq_true, decide_eq_true_eq] at hB
  obtain ⟨⟨hsel, hL⟩, hn⟩ := hB
  have r := wpAnyN_mix (S := S) (N := N) (Q := Q) hsel L _ a w.drew hL h
  rw [hn] at r
  exact wp_region_noPanic (wp_region_any hm (wpAny_of_n _ _ _ _ r))

theorem wpMixN_take {i : Nat} {o : Oper} {rest : List (Bool × Nat)} {a : Act} {w : World} (ho : ops[i]? = some o) (hw : Region.wanted o (yielded ops a.tmps) = true) {v : Value} (hS : S w) (hv : ∀ w, S w → (execOp a.eval o).run P w = .ok (.value v) w)
    (h : ∀ K' : Act → World → Prop, (∀ a w, wpMixN P ops S N Q rest a w → K' a w) → K' (a.put o.dst v) w) : wpMixN P ops S N Q ((true, i) :: rest) a w := ⟨o, v, ho, hS, .inl ⟨hw, hv⟩, h _ fun _ _ h => h⟩
theorem wpMixN_go {i : Nat} {o : Oper} {rest : List (Bool × Nat)} {a : Act} {w : World} (ho : ops[i]? = some o) (hw : Region.wanted o (yielded ops a.tmps) = true)
    (h : ∀ K' : Act → World → Prop, (∀ a w, (N.contains i = false → S w) ∧ wpMixN P ops S N Q rest a w → K' a w) → o.wp P a w K' (NoPanic Q)) : wpMixN P ops S N Q ((false, i) :: rest) a w := by
  refine ⟨o, ho, ?_⟩
  rw [if_pos hw]
  exact h _ fun _ _ h => h
theorem wpMixN_value {i : Nat} {o : Oper} {rest : List (Bool × Nat)} {a : Act} {w w' : World} (ho : ops[i]? = some o) (hw : Region.wanted o (yielded ops a.tmps) = true) {v : Value} (hr : (execOp a.eval o).run P w = .ok (.value v) w') (hs : N.contains i = false → S w') (h : wpMixN P ops S N Q rest (a.put o.dst v) w') :
    wpMixN P ops S N Q ((false, i) :: rest) a w := by
  refine ⟨o, ho, ?_⟩
  rw [if_pos hw]
  unfold Oper.wp
  rw [hr]
  exact ⟨hs, h⟩
theorem wpMixN_unit {i : Nat} {o : Oper} {rest : List (Bool × Nat)} {a : Act} {w w' : World} (ho : ops[i]? = some o) (hw : Region.wanted o (yielded ops a.tmps) = true) (hr : (execOp a.eval o).run P w = .ok .skip w') (hs : N.contains i = false → S w') (h : wpMixN P ops S N Q rest (a.put o.dst undef) w') :
    wpMixN P ops S N Q ((false, i) :: rest) a w := by
  refine ⟨o, ho, ?_⟩
  rw [if_pos hw]
  unfold Oper.wp
  rw [hr]
  exact ⟨hs, h⟩
theorem wpMixN_nil {a : Act} {w : World} (h : Q .normal a w) : wpMixN P ops S N Q [] a w := h
end
end Go.Proofs.Ytoefpnmfeaimlaa
