/- A statement whose order is open, part of whose operations only read: they may be taken first; the others come in their own order. Over any program. -/
import Derived.OrdersHeld
import Derived.StillTactics
import Derived.Deep.RegionHeld3
namespace Go.Proofs.Ytoefpnmfeaimlaa
section
variable {P : Program} {ops : Array Oper} {S : World → Prop} {Q : Exit → Act → World → Prop}

/-- The operations of l are taken one by one: each yields a value in every world that meets S, and does nothing else. -/
def wpTake (P : Program) (ops : Array Oper) (S : World → Prop) (K : Act → Prop) : List Oper → Act → Prop
  | [], a => K a
  | o :: rest, a => ∃ v, YieldsIf P ops S o v a ∧ wpTake P ops S K rest (a.put o.dst v)
/-- The operations of l are carried out one by one; S is shown anew behind each. -/
def wpChain (P : Program) (ops : Array Oper) (S : World → Prop) (Q : Exit → Act → World → Prop) : List Oper → Act → World → Prop
  | [], a, w => Q .normal a w
  | o :: rest, a, w => (if Region.wanted o (yielded ops a.tmps) then o.wp P a w (fun a' w' => S w' ∧ wpChain P ops S Q rest a' w') (NoPanic Q) else S w ∧ wpChain P ops S Q rest (a.put o.dst undef) w)

def takeB (ops : Array Oper) : List Nat → Array Bool → Bool
  | [], _ => true
  | i :: l, listed => Region.free .any ops listed i && (Region.ready .any ops listed).contains i && decide (i < ops.size) && takeB ops l (listed.setIfInBounds i true)
def chainB (ops : Array Oper) : List Nat → Array Bool → Bool
  | [], listed => (Region.ready .any ops listed).isEmpty
  | i :: l, listed => (Region.ready .any ops listed == [i]) && decide (i < ops.size) && chainB ops l (listed.setIfInBounds i true)
def listAll (listed : Array Bool) : List Nat → Array Bool
  | [] => listed
  | i :: l => listAll (listed.setIfInBounds i true) l
def mixB (ops : Array Oper) (A C : List Nat) : Bool :=
  Region.noSelect ops && takeB ops A (Array.replicate ops.size false) && chainB ops C (listAll (Array.replicate ops.size false) A) && decide (A.length + C.length = ops.size)
def pickOps (ops : Array Oper) (l : List Nat) : List Oper := l.filterMap (ops[·]?)

theorem wpAnyH_chain : ∀ (C : List Nat) (listed : Array Bool) (a : Act) (w : World), chainB ops C listed = true → wpChain P ops S Q (pickOps ops C) a w → wpAnyH P .any ops (NoPanic Q) S C.length listed a w
  | [], listed, a, w, hB, h => by
    refine ⟨?_, h⟩
    simpa [chainB] using hB
  | i :: C, listed, a, w, hB, h => by
    simp only [chainB, Bool.and_eq_true, beq_iff_eq, decide_eq_true_eq] at hB
    obtain ⟨⟨hr, hi⟩, hB⟩ := hB
    refine wpAnyH_all hr (by simp) ?_
    intro j hj
    have hj : j = i := by simpa using hj
    subst hj
    have ho : ops[j]? = some ops[j] := Array.getElem?_eq_getElem hi
    have hp : pickOps ops (j :: C) = ops[j] :: pickOps ops C := by simp [pickOps, ho]
    rw [hp] at h
    unfold wpOp
    simp only [ho]
    simp only [wpChain] at h
    split
    · rename_i hw
      rw [if_pos hw] at h
      exact .inl (Oper.wp_mono (fun a' w' ⟨hs, hc⟩ => ⟨hs, wpAnyH_chain C _ a' w' hB hc⟩) h)
    · rename_i hw
      rw [if_neg hw] at h
      exact ⟨h.1, wpAnyH_chain C _ _ w hB h.2⟩
theorem wpAnyH_takes (w : World) (hS : S w) (hsel : Region.noSelect ops = true) (n : Nat) (K : Act → Prop) (listed' : Array Bool) (hK : ∀ a, K a → wpAnyH P .any ops (NoPanic Q) S n listed' a w) :
    ∀ (A : List Nat) (listed : Array Bool) (a : Act), listAll listed A = listed' → takeB ops A listed = true → wpTake P ops S K (pickOps ops A) a → wpAnyH P .any ops (NoPanic Q) S (A.length + n) listed a w
  | [], listed, a, hl, _, h => by
    simp only [listAll] at hl
    subst hl
    simpa using hK a h
  | i :: A, listed, a, hl, hB, h => by
    simp only [takeB, Bool.and_eq_true, decide_eq_true_eq] at hB
    obtain ⟨⟨⟨hf, hr⟩, hi⟩, hB⟩ := hB
    have ho : ops[i]? = some ops[i] := Array.getElem?_eq_getElem hi
    have hp : pickOps ops (i :: A) = ops[i] :: pickOps ops A := by simp [pickOps, ho]
    rw [hp] at h
    obtain ⟨v, hy, h⟩ := h
    have := wpAnyH_takes w hS hsel n K listed' hK A (listed.setIfInBounds i true) (a.put ops[i].dst v) hl hB h
    rw [show (i :: A).length + n = (A.length + n) + 1 by simp; omega]
    exact wpAnyH_take ho hsel hf hr (fun c a w hq => hq.elim) hy hS this

/-- **A region that draws its order**: the operations A are taken first, in this order; then come the operations C, one by one. -/
theorem wp_region_mix {id : Nat} {a : Act} {w : World} (S : World → Prop) (A C : List Nat) (hm : P.follows .mixedOrders = true) (hB : mixB ops A C = true) (hS : S w.drew)
    (h : wpTake P ops S (fun a' => wpChain P ops S Q (pickOps ops C) a' w.drew) (pickOps ops A) a) : (Code.region id ops true).wp P Q a w := by
  simp only [mixB, Bool.and_eq_true, decide_eq_true_eq] at hB
  obtain ⟨⟨⟨hsel, hA⟩, hC⟩, hn⟩ := hB
  refine wp_region_noPanic (wp_region_held (S := S) hm ?_)
  have r := wpAnyH_takes (Q := Q) w.drew hS hsel C.length _ _ (fun a' ha' => wpAnyH_chain C _ a' w.drew hC ha') A _ a rfl hA h
  rw [hn] at r
  exact r

theorem wpTake_step {o : Oper} {rest : List Oper} {a : Act} {K : Act → Prop} (hw : Region.wanted o (yielded ops a.tmps) = true) {v : Value} (hv : ∀ w, S w → (execOp a.eval o).run P w = .ok (.value v) w) (h : wpTake P ops S K rest (a.put o.dst v)) :
    wpTake P ops S K (o :: rest) a := ⟨v, .inl ⟨hw, hv⟩, h⟩
theorem wpTake_skip {o : Oper} {rest : List Oper} {a : Act} {K : Act → Prop} (hw : Region.wanted o (yielded ops a.tmps) = false) (h : wpTake P ops S K rest (a.put o.dst undef)) :
    wpTake P ops S K (o :: rest) a := ⟨undef, .inr ⟨hw, rfl⟩, h⟩
/-- The same, what follows kept behind a name. -/
theorem wpTake_go {o : Oper} {rest : List Oper} {a : Act} {K : Act → Prop} (hw : Region.wanted o (yielded ops a.tmps) = true) {v : Value} (hv : ∀ w, S w → (execOp a.eval o).run P w = .ok (.value v) w)
    (h : ∀ K' : Act → Prop, (∀ a, wpTake P ops S K rest a → K' a) → K' (a.put o.dst v)) : wpTake P ops S K (o :: rest) a := ⟨v, .inl ⟨hw, hv⟩, h _ fun _ h => h⟩
theorem wpChain_go {o : Oper} {rest : List Oper} {a : Act} {w : World} (hw : Region.wanted o (yielded ops a.tmps) = true)
    (h : ∀ K' : Act → World → Prop, (∀ a w, S w ∧ wpChain P ops S Q rest a w → K' a w) → o.wp P a w K' (NoPanic Q)) : wpChain P ops S Q (o :: rest) a w := by
  unfold wpChain
  rw [if_pos hw]
  exact h _ fun _ _ h => h
theorem wpStill_run {w : World} {R : Act → Prop} {a : Act} {o : Oper} {rest : List Oper} (hw : Region.wanted o (yielded ops a.tmps) = true) {v : Value} (hr : (execOp a.eval o).run P w = .ok (.value v) w) (h : wpStill P ops w R rest (a.put o.dst v)) : wpStill P ops w R (o :: rest) a :=
  wpStill_step fun K hK => by
    rw [if_pos hw]
    unfold Oper.still
    rw [hr]
    exact ⟨rfl, hK _ h⟩
theorem wpStill_skip {w : World} {R : Act → Prop} {a : Act} {o : Oper} {rest : List Oper} (hw : Region.wanted o (yielded ops a.tmps) = false) (h : wpStill P ops w R rest (a.put o.dst undef)) : wpStill P ops w R (o :: rest) a :=
  wpStill_step fun K hK => by
    rw [hw]
    exact hK _ h
theorem wpTake_nil {a : Act} {K : Act → Prop} (h : K a) : wpTake P ops S K [] a := h
theorem wpChain_nil {a : Act} {w : World} (h : Q .normal a w) : wpChain P ops S Q [] a w := h
theorem wpChain_value {o : Oper} {rest : List Oper} {a : Act} {w w' : World} (hw : Region.wanted o (yielded ops a.tmps) = true) {v : Value} (hr : (execOp a.eval o).run P w = .ok (.value v) w') (hs : S w') (h : wpChain P ops S Q rest (a.put o.dst v) w') :
    wpChain P ops S Q (o :: rest) a w := by
  unfold wpChain
  rw [if_pos hw]
  unfold Oper.wp
  rw [hr]
  exact ⟨hs, h⟩
theorem wpChain_unit {o : Oper} {rest : List Oper} {a : Act} {w w' : World} (hw : Region.wanted o (yielded ops a.tmps) = true) (hr : (execOp a.eval o).run P w = .ok .skip w') (hs : S w') (h : wpChain P ops S Q rest (a.put o.dst undef) w') :
    wpChain P ops S Q (o :: rest) a w := by
  unfold wpChain
  rw [if_pos hw]
  unfold Oper.wp
  rw [hr]
  exact ⟨hs, h⟩
theorem wpChain_call {o : Oper} {rest : List Oper} {a : Act} {w w' : World} (hw : Region.wanted o (yielded ops a.tmps) = true) {f : FuncId} {args : Array Value} (hr : (execOp a.eval o).run P w = .ok (.enter f args) w')
    (hc : Calls P f args w' fun e w'' => ∃ v, e = .returned v ∧ S w'' ∧ wpChain P ops S Q rest (a.put o.dst v) w'') : wpChain P ops S Q (o :: rest) a w := by
  unfold wpChain
  rw [if_pos hw]
  unfold Oper.wp
  rw [hr]
  simp only [Oper.upon]
  refine hc.mono ?_
  rintro e w'' ⟨v, rfl, hs, h⟩
  exact ⟨hs, h⟩
end
end Go.Proofs.Ytoefpnmfeaimlaa
