/- The contracts of Flush and Mount of the disk of the specification. -/
import Derived.Test.YtoefpnmfeaimlaaRef4
namespace Go.Proofs.Ytoefpnmfeaimlaa
open Go.RowKit Dk

/-- The pending sectors with a number below j. -/
def pendTo (D : DS) (j : Nat) : List Nat := (List.range j).filter fun i => (D.sec i).next.isSome
theorem pend_to (D : DS) : D.pend = pendTo D D.s.length := rfl
theorem pendTo_none (D : DS) (j : Nat) (h : (D.sec j).next = none) : pendTo D (j + 1) = pendTo D j := by
  unfold pendTo
  rw [List.range_succ, List.filter_append]
  simp [h]
theorem pendTo_some (D : DS) (j : Nat) (t : List UInt8) (h : (D.sec j).next = some t) : pendTo D (j + 1) = pendTo D j ++ [j] := by
  unfold pendTo
  rw [List.range_succ, List.filter_append]
  simp [h]
theorem pendTo_lt (D : DS) (j : Nat) : ∀ i ∈ pendTo D j, i < j := by
  intro i hi
  unfold pendTo at hi
  simp at hi
  exact hi.1
/-- After the sectors below j. -/
def after (D : DS) (picks : List Int) (j : Nat) : DS := D.settleAll picks 0 (pendTo D j)
theorem after_zero (D : DS) (picks : List Int) : after D picks 0 = D := rfl
theorem after_len (D : DS) (picks : List Int) (j : Nat) : (after D picks j).s.length = D.s.length := settleAll_len _ _ _ _
theorem after_sec (D : DS) (picks : List Int) (j : Nat) (hj : j < D.s.length) : (after D picks j).sec j = D.sec j :=
  settleAll_sec _ _ _ _ _ (fun i hi => Nat.lt_trans (pendTo_lt D j i hi) hj) (fun h => Nat.lt_irrefl _ (pendTo_lt D j j h))
theorem after_none (D : DS) (picks : List Int) (j : Nat) (h : (D.sec j).next = none) : after D picks (j + 1) = after D picks j := by
  unfold after
  rw [pendTo_none D j h]
theorem after_some (D : DS) (picks : List Int) (j : Nat) (t : List UInt8) (h : (D.sec j).next = some t) : after D picks (j + 1) = (after D picks j).settle j (pickAt picks (pendTo D j).length) := by
  unfold after
  rw [pendTo_some D j t h, settleAll_snoc, Nat.zero_add]

theorem rflush_down {w : World} (p : Nat) (h1 : w.cell? ⟨p, 1, none⟩ = some (.bool true)) :
    Calls Try.prog 40 #[.pointer (some ⟨p, 0, none⟩)] w fun e w' => e = .returned (.int .i64 24) ∧ w = w' := by
  go_enter Try.func40, Try.ntmps40
  go_wp2
  go_ret
  exact ⟨rfl, rfl⟩
theorem rflush_step {w W1 : World} (p : Nat) (h1 : w.cell? ⟨p, 1, none⟩ = some (.bool false))
    (HS : Hid (Calls Try.prog 59 #[.pointer (some ⟨p, 0, none⟩)] w fun e w' => e = .returned (.int .i64 24) ∧ W1 = w')) :
    Calls Try.prog 40 #[.pointer (some ⟨p, 0, none⟩)] w fun e w' => e = .returned (.int .i64 24) ∧ W1 = w' := by
  go_enter Try.func40, Try.ntmps40
  go_wp2_with (go_at_call 59; refine HS.out.mono ?_; rintro e w' ⟨rfl, rfl⟩)
  go_ret
  exact ⟨rfl, rfl⟩

set_option maxHeartbeats 400000 in
set_option maxRecDepth 100000 in
theorem rflush_loop {w W1 : World} {r : RF} {D : DS} (hR : Hid (RAt W1 r D)) (h1 : w.cell? ⟨r.p, 1, none⟩ = some (.bool false)) (hfew : (D.s.length : Int) ≤ 4096)
    (HS : Hid (Calls Try.prog 59 #[.pointer (some ⟨r.p, 0, none⟩)] w fun e w' => e = .returned (.int .i64 0) ∧ W1 = w')) :
    Calls Try.prog 40 #[.pointer (some ⟨r.p, 0, none⟩)] w fun e w' => e = .returned (.int .i64 0) ∧ RAt w' r (D.settleAll [] 0 D.pend) ∧ Fr r.blks W1 w' := by
  go_enter Try.func40, Try.ntmps40
  go_wp2_with (go_at_call 59; refine HS.out.mono ?_; rintro e w' ⟨rfl, rfl⟩)
  go_loopw [4] (fun iv wr => ∃ j : Nat, j ≤ D.s.length ∧ iv = .int .i64 j ∧ RAt wr r (after D [] j) ∧ Fr r.blks W1 wr) (fun iv _ => D.s.length - (intOf iv).toNat)
  case atStart => exact ⟨0, Nat.zero_le _, rfl, hR.out, Fr.refl _ _⟩
  case round =>
    obtain ⟨j, hj, rfl, hD, hF⟩ := hrel
    have hlen := after_len D [] j
    have hc0 : ∃ cap, wr.cell? ⟨r.p, 0, none⟩ = some (.slice (some ⟨r.b, 0, none⟩) D.s.length cap) := by
      obtain ⟨c, x, cap, h⟩ := hD
      exact ⟨cap, hlen ▸ h.c0⟩
    obtain ⟨cap, c0⟩ := hc0
    by_cases hlt : j < D.s.length
    · have hjn : (j : Int) < D.s.length := by omega
      have hj4 : (j : Int) < 4096 := by omega
      have hsec := after_sec D [] j hlt
      have hs2 : wr.cell? ⟨r.b, j * 4 + 2, none⟩ = some (.bool (D.sec j).next.isSome) := by
        obtain ⟨c, x, cap, h⟩ := hD
        rw [← hsec]
        exact (h.sec (by rw [hlen]; exact hlt)).2.2.1
      have HF := Lib.hid hF
      cases hn : (D.sec j).next with
      | none =>
        rw [hn] at hs2
        simp only [Option.isSome_none] at hs2
        have ha := after_none D [] j hn
        rw [← ha] at hD
        have HD := Lib.hid hD
        clear hD hF ha hn hlen hsec
        go_wp2
        go_roundw
        case rel => exact ⟨j + 1, by omega, by go_num, HD.out, HF.out⟩
        case measure => simp [intOf]; omega
      | some t =>
        rw [hn] at hs2
        simp only [Option.isSome_some] at hs2
        have ha := after_some D [] j t hn
        have hs := rsettle_any hD j (by rw [hlen]; exact hlt) t (by rw [hsec]; exact hn) 64
        rw [show pickAt [] (pendTo D j).length = 64 from by simp [pickAt]] at ha
        rw [← ha] at hs
        have HS2 := Lib.hid hs
        clear hD hF ha hn hlen hsec hs
        go_wp2_with (go_at_call 60; refine HS2.out.mono ?_; rintro e W3 ⟨rfl, hD3, hF3⟩; have HD3 := Lib.hid hD3; have HF3 := Lib.hid hF3; clear hD3 hF3)
        go_roundw
        case rel => exact ⟨j + 1, by omega, by go_num, HD3.out, HF.out.trans HF3.out⟩
        case measure => simp [intOf]; omega
    · obtain rfl : j = D.s.length := by omega
      have HD := Lib.hid hD
      have HF := Lib.hid hF
      clear hD hF hj hlen
      go_wp2
      go_ret
      exact ⟨rfl, HD.out, HF.out⟩

theorem rflush_any {w : World} {r : RF} {D : DS} (h : RAt w r D) :
    Calls Try.prog 40 #[.pointer (some ⟨r.p, 0, none⟩)] w fun e w' => e = .returned (.int .i64 D.flushE) ∧ RAt w' r D.flush ∧ Fr r.blks w w' := by
  have hc1 : w.cell? ⟨r.p, 1, none⟩ = some (.bool D.off) := by obtain ⟨c, x, cap, h⟩ := h; exact h.c1
  cases ho : D.off with
  | true =>
    have e1 : D.flushE = 24 := by simp [DS.flushE, ho, eDown]
    have e2 : D.flush = D := by simp [DS.flush, ho]
    rw [e1, e2]
    rw [ho] at hc1
    exact (rflush_down r.p hc1).mono fun e w' ⟨he, hw⟩ => by subst hw; exact ⟨he, h, Fr.refl _ _⟩
  | false =>
    rw [ho] at hc1
    obtain ⟨W1, hD1, hF1, hst⟩ := rstep_ex h
    rcases step_cases D with hq | ⟨hq, hs1, _⟩
    · rw [hq] at hst
      have e1 : D.flushE = 24 := by simp [DS.flushE, ho, hq]
      have e2 : D.flush = D.step.1 := by simp [DS.flush, ho, hq, eOK]
      rw [e1, e2]
      exact (rflush_step r.p hc1 hst).mono fun e w' ⟨he, hw⟩ => by subst hw; exact ⟨he, hD1, hF1⟩
    · rw [hq] at hst
      have e1 : D.flushE = 0 := by simp [DS.flushE, ho, hq]
      have e2 : D.flush = D.step.1.settleAll [] 0 D.step.1.pend := by simp [DS.flush, ho, hq, eOK, DS.pend, hs1]
      rw [e1, e2]
      have hfew : (D.step.1.s.length : Int) ≤ 4096 := by obtain ⟨c, x, cap, h⟩ := hD1; have := h.few; omega
      exact (rflush_loop hD1 hc1 hfew hst).mono fun e w' ⟨he, hd, hw⟩ => ⟨he, hd, hF1.trans hw⟩
end Go.Proofs.Ytoefpnmfeaimlaa
