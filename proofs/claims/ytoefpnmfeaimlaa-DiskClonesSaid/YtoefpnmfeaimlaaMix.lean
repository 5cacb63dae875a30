/- A statement whose order is open: some operations only read and are taken as soon as they are free, each of the others is the only one that may come. Over any program. -/
import Derived.Test.YtoefpnmfeaimlaaRegs
namespace Go.Proofs.Ytoefpnmfeaimlaa
section
variable {P : Program} {ops : Array Oper} {S : World → Prop} {Q : Exit → Act → World → Prop}

/-- A marked operation is taken: it yields a value in every world that meets S; the others are carried out, and S is shown anew behind each. -/
def wpMix (P : Program) (ops : Array Oper) (S : World → Prop) (Q : Exit → Act → World → Prop) : List (Bool × Nat) → Act → World → Prop
  | [], a, w => Q .normal a w
  | (true, i) :: rest, a, w => ∃ o v, ops[i]? = some o ∧ YieldsIf P ops S o v a ∧ wpMix P ops S Q rest (a.put o.dst v) w
  | (false, i) :: rest, a, w => ∃ o, ops[i]? = some o ∧ if Region.wanted o (yielded ops a.tmps) then o.wp P a w (fun a' w' => S w' ∧ wpMix P ops S Q rest a' w') (NoPanic Q) else wpMix P ops S Q rest (a.put o.dst undef) w

def mixesB (ops : Array Oper) : List (Bool × Nat) → Array Bool → Bool
  | [], listed => (Region.ready .any ops listed).isEmpty
  | (true, i) :: l, listed => Region.free .any ops listed i && (Region.ready .any ops listed).contains i && decide (i < ops.size) && mixesB ops l (listed.setIfInBounds i true)
  | (false, i) :: l, listed => (Region.ready .any ops listed == [i]) && decide (i < ops.size) && mixesB ops l (listed.setIfInBounds i true)
def mixesOk (ops : Array Oper) (L : List (Bool × Nat)) : Bool :=
  Region.noSelect ops && mixesB ops L (Array.replicate ops.size false) && decide (L.length = ops.size)

theorem wpAnyH_mix (hsel : Region.noSelect ops = true) : ∀ (L : List (Bool × Nat)) (listed : Array Bool) (a : Act) (w : World), mixesB ops L listed = true → S w → wpMix P ops S Q L a w → wpAnyH P .any ops (NoPanic Q) S L.length listed a w
  | [], listed, a, w, hB, _, h => by
    refine ⟨?_, h⟩
    simpa [mixesB] using hB
  | (true, i) :: L, listed, a, w, hB, hS, h => by
    simp only [mixesB, Bool.and_eq_true, decide_eq_true_eq] at hB
    obtain ⟨⟨⟨hf, hr⟩, hi⟩, hB⟩ := hB
    obtain ⟨o, v, ho, hy, h⟩ := h
    exact wpAnyH_take ho hsel hf hr (fun c a w hq => hq.elim) hy hS (wpAnyH_mix hsel L _ _ w hB hS h)
  | (false, i) :: L, listed, a, w, hB, hS, h => by
    simp only [mixesB, Bool.and_eq_true, beq_iff_eq, decide_eq_true_eq] at hB
    obtain ⟨⟨hr, hi⟩, hB⟩ := hB
    refine wpAnyH_all hr (by simp) ?_
    intro j hj
    have hj : j = i := by simpa using hj
    subst hj
    obtain ⟨o, ho, h⟩ := h
    unfold wpOp
    simp only [ho]
    split
    · rename_i hw
      rw [if_pos hw] at h
      exact .inl (Oper.wp_mono (fun a' w' ⟨hs, hc⟩ => ⟨hs, wpAnyH_mix hsel L _ a' w' hB hs hc⟩) h)
    · rename_i hw
      rw [if_neg hw] at h
      exact ⟨hS, wpAnyH_mix hsel L _ _ w hB hS h⟩

/-- **A region that draws its order**, in the order L. -/
theorem wp_region_mixes {id : Nat} {a : Act} {w : World} (S : World → Prop) (L : List (Bool × Nat)) (hm : P.follows .mixedOrders = true) (hB : mixesOk ops L = true) (hS : S w.drew)
    (h : wpMix P ops S Q L a w.drew) : (Code.region id ops true).wp P Q a w := by
  simp only [mixesOk, Bool.and_eq_true, decide_eq_true_eq] at hB
  obtain ⟨⟨hsel, hL⟩, hn⟩ := hB
  refine wp_region_noPanic (wp_region_held (S := S) hm ?_)
  have r := wpAnyH_mix (S := S) (Q := Q) hsel L _ a w.drew hL hS h
  rw [hn] at r
  exact r

/-- An operation is taken, what follows kept behind a name. -/
theorem wpMix_take {i : Nat} {o : Oper} {rest : List (Bool × Nat)} {a : Act} {w : World} (ho : ops[i]? = some o) (hw : Region.wanted o (yielded ops a.tmps) = true) {v : Value} (hv : ∀ w, S w → (execOp a.eval o).run P w = .ok (.value v) w)
    (h : ∀ K' : Act → World → Prop, (∀ a w, wpMix P ops S Q rest a w → K' a w) → K' (a.put o.dst v) w) : wpMix P ops S Q ((true, i) :: rest) a w := ⟨o, v, ho, .inl ⟨hw, hv⟩, h _ fun _ _ h => h⟩
theorem wpMix_skip {i : Nat} {o : Oper} {rest : List (Bool × Nat)} {a : Act} {w : World} (ho : ops[i]? = some o) (hw : Region.wanted o (yielded ops a.tmps) = false)
    (h : ∀ K' : Act → World → Prop, (∀ a w, wpMix P ops S Q rest a w → K' a w) → K' (a.put o.dst undef) w) : wpMix P ops S Q ((true, i) :: rest) a w := ⟨o, undef, ho, .inr ⟨hw, rfl⟩, h _ fun _ _ h => h⟩
theorem wpMix_go {i : Nat} {o : Oper} {rest : List (Bool × Nat)} {a : Act} {w : World} (ho : ops[i]? = some o) (hw : Region.wanted o (yielded ops a.tmps) = true)
    (h : ∀ K' : Act → World → Prop, (∀ a w, S w ∧ wpMix P ops S Q rest a w → K' a w) → o.wp P a w K' (NoPanic Q)) : wpMix P ops S Q ((false, i) :: rest) a w := by
  refine ⟨o, ho, ?_⟩
  rw [if_pos hw]
  exact h _ fun _ _ h => h
theorem wpMix_pass {i : Nat} {o : Oper} {rest : List (Bool × Nat)} {a : Act} {w : World} (ho : ops[i]? = some o) (hw : Region.wanted o (yielded ops a.tmps) = false)
    (h : ∀ K' : Act → World → Prop, (∀ a w, wpMix P ops S Q rest a w → K' a w) → K' (a.put o.dst undef) w) : wpMix P ops S Q ((false, i) :: rest) a w := by
  refine ⟨o, ho, ?_⟩
  rw [if_neg (by rw [hw]; simp)]
  exact h _ fun _ _ h => h
theorem wpMix_value {i : Nat} {o : Oper} {rest : List (Bool × Nat)} {a : Act} {w w' : World} (ho : ops[i]? = some o) (hw : Region.wanted o (yielded ops a.tmps) = true) {v : Value} (hr : (execOp a.eval o).run P w = .ok (.value v) w') (hs : S w') (h : wpMix P ops S Q rest (a.put o.dst v) w') :
    wpMix P ops S Q ((false, i) :: rest) a w := by
  refine ⟨o, ho, ?_⟩
  rw [if_pos hw]
  unfold Oper.wp
  rw [hr]
  exact ⟨hs, h⟩
theorem wpMix_unit {i : Nat} {o : Oper} {rest : List (Bool × Nat)} {a : Act} {w w' : World} (ho : ops[i]? = some o) (hw : Region.wanted o (yielded ops a.tmps) = true) (hr : (execOp a.eval o).run P w = .ok .skip w') (hs : S w') (h : wpMix P ops S Q rest (a.put o.dst undef) w') :
    wpMix P ops S Q ((false, i) :: rest) a w := by
  refine ⟨o, ho, ?_⟩
  rw [if_pos hw]
  unfold Oper.wp
  rw [hr]
  exact ⟨hs, h⟩
theorem wpMix_nil {a : Act} {w : World} (h : Q .normal a w) : wpMix P ops S Q [] a w := h
end
end Go.Proofs.Ytoefpnmfeaimlaa
