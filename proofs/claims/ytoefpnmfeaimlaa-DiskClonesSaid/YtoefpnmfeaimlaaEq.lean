/- '==' between two byte arrays. Over any program. -/
import Derived.Test.YtoefpnmfeaimlaaOps
import Derived.Laws.StructEq
namespace Go.Proofs.Ytoefpnmfeaimlaa
open Go.RowKit
section
variable {P : Program} (w : World)
theorem run_equalIn_bytes (d : Nat) (t e : TypeId) (n : Nat) (ht : P.underlying t = some (.array n e)) (he : P.underlying e = some (.int .u8)) (hs : (P.info? e).map (·.size) = some 1) (a b : List UInt8) (ha : a.length = n) (hb : b.length = n) :
    ∃ r, (Op.equalIn (d + 2) t (.agg (byteVs a).toArray) (.agg (byteVs b).toArray)).run P w = .ok r w ∧ (r = true ↔ a = b) := by
  rw [Op.equalIn]
  simp only [Sem.run_bind, run_underlying ht, Result.andThen_ok]
  have hsz : (sizeOf e).run P w = .ok 1 w := by
    cases hq : P.info? e with
    | none => simp [hq] at hs
    | some i => simp [sizeOf, typeInfo, hq] at hs ⊢; exact hs
  rw [hsz]
  simp only [Result.andThen_ok]
  have hag : (isAgg e).run P w = .ok false w := by simp [isAgg, run_underlying he]
  have hpart : ∀ (l : List UInt8) (i : Nat) (x : UInt8), l[i]? = some x → (part e (byteVs l).toArray (i * 1)).run P w = .ok (byteV x) w := by
    intro l i x hx
    unfold part
    simp [hag, byteVs, hx, Sem.run_bind]
  have key : ∀ (m i : Nat), i + m = n → (∀ j, j < i → a[j]? = b[j]?) → ∃ o : Option Bool, (forIn (List.range' i m) ((none, ()) : Option Bool × Unit) fun i __s => do
                let __do_lift ← part e (byteVs a).toArray (i * 1)
                let __do_lift_1 ← part e (byteVs b).toArray (i * 1)
                let __do_lift ← Op.equalIn (d + 1) e __do_lift __do_lift_1
                if (!__do_lift) = true then pure (ForInStep.done (some false, ()))
                  else pure (ForInStep.yield (none, ()))).run P w = .ok (o, ()) w ∧ ((o = none ∧ a = b) ∨ (o = some false ∧ a ≠ b)) := by
    intro m
    induction m with
    | zero =>
      intro i hi hj
      refine ⟨none, by simp [Sem.run_pure], .inl ⟨rfl, ?_⟩⟩
      apply List.ext_getElem?
      intro j
      by_cases h : j < i
      · exact hj j h
      · rw [List.getElem?_eq_none (by omega), List.getElem?_eq_none (by omega)]
    | succ m ih =>
      intro i hi hj
      have hia : i < a.length := by omega
      have hib : i < b.length := by omega
      have pa := hpart a i a[i] (List.getElem?_eq_getElem hia)
      have pb := hpart b i b[i] (List.getElem?_eq_getElem hib)
      have he1 : (Op.equalIn (d + 1) e (byteV a[i]) (byteV b[i])).run P w = .ok (((a[i].toNat : Int)) == (b[i].toNat : Int)) w := run_equalIn_int w d e .u8 .u8 _ _ he
      simp only [List.range'_succ, List.forIn_cons, Sem.run_bind, pa, pb, he1, Result.andThen_ok]
      by_cases h : a[i] = b[i]
      · have hb1 : (((a[i].toNat : Int)) == (b[i].toNat : Int)) = true := by simp [h]
        simp only [hb1, Bool.not_true, Bool.false_eq_true, if_false, Sem.run_pure, Result.andThen_ok]
        refine ih (i + 1) (by omega) ?_
        intro j hj2
        by_cases hji : j < i
        · exact hj j hji
        · have : j = i := by omega
          subst this
          rw [List.getElem?_eq_getElem hia, List.getElem?_eq_getElem hib, h]
      · have hb1 : (((a[i].toNat : Int)) == (b[i].toNat : Int)) = false := by
          rw [beq_eq_false_iff_ne]
          intro h2
          exact h (UInt8.toNat_inj.1 (by omega))
        simp only [hb1, Bool.not_false, if_true, Sem.run_pure, Result.andThen_ok]
        refine ⟨some false, rfl, .inr ⟨rfl, fun e => h (by subst e; rfl)⟩⟩
  obtain ⟨o, ho, hc⟩ := key n 0 (by omega) (by intro j hj; omega)
  rw [Std.Legacy.Range.forIn_eq_forIn_range']
  have hsize : ([:n] : Std.Legacy.Range).size = n := by simp [Std.Legacy.Range.size]
  rw [hsize]
  rw [ho]
  simp only [Result.andThen_ok]
  rcases hc with ⟨rfl, h⟩ | ⟨rfl, h⟩
  · exact ⟨true, by simp [Sem.run_pure], by simp [h]⟩
  · exact ⟨false, by simp [Sem.run_pure], by simp [h]⟩
theorem run_neq_bytes (t e : TypeId) (n : Nat) (ht : P.underlying t = some (.array n e)) (he : P.underlying e = some (.int .u8)) (hs : (P.info? e).map (·.size) = some 1) (a b : List UInt8) (ha : a.length = n) (hb : b.length = n) :
    ∃ r, (∀ w : World, (binOp .neq t (.agg (byteVs a).toArray) (.agg (byteVs b).toArray)).run P w = .ok (.bool r) w) ∧ (r = false ↔ a = b) := by
  have h : ∀ w : World, (binOp .neq t (.agg (byteVs a).toArray) (.agg (byteVs b).toArray)).run P w = .ok (.bool (!decide (a = b))) w := by
    intro w
    obtain ⟨r, hr, hc⟩ := run_equalIn_bytes (P := P) w 9998 t e n ht he hs a b ha hb
    rw [run_neq_struct, hr]
    simp only [Result.andThen_ok]
    have : r = decide (a = b) := by
      cases r
      · have : ¬ a = b := fun e => by have := hc.2 e; cases this
        simp [this]
      · simp [hc.1 rfl]
    rw [this]
  exact ⟨_, h, by simp⟩
theorem exec_binOp {op : Oper} {a : Act} {b : BinOp} {t ty : TypeId} {x y : Operand} (ho : op.op = .binOp b t x y ty) {u v r : Value} (hx : a.eval x = u) (hy : a.eval y = v) (hg : (eqGuard b t x y u v).run P w = .ok () w) (h : (binOp b t u v).run P w = .ok r w) :
    (execOp a.eval op).run P w = .ok (.value r) w := by
  unfold execOp
  simp only [ho, hx, hy, Sem.run_bind, Sem.run_pure, hg, h, Result.andThen_ok]
end
end Go.Proofs.Ytoefpnmfeaimlaa
