/- The contracts of Read, Write, Wear of the disk of the specification. -/
import Derived.Test.YtoefpnmfeaimlaaRef
namespace Go.Proofs.Ytoefpnmfeaimlaa
open Go.RowKit Dk

/-- After a store into field j of sector k. -/
theorem RIn.put {w : World} {r : RF} {D : DS} {c : Array Value} {x : Int} {cap : Nat} (h : RIn w r D c x cap) {k : Nat} (_ : k < D.s.length) (j : Nat) (v : Value) :
    (w.setCell ⟨r.b, k * 4 + j, none⟩ v).heap[r.p]? = w.heap[r.p]? ∧ (w.setCell ⟨r.b, k * 4 + j, none⟩ v).heap[r.b]? = some (.cells (c.setIfInBounds (k * 4 + j) v) 52 (0, 0)) ∧
      Fr r.blks w (w.setCell ⟨r.b, k * 4 + j, none⟩ v) := by
  rw [setCell_put w r.b (k * 4 + j) v _ _ _ h.hb]
  exact ⟨heap_put_ne _ _ _ _ h.pb, heap_put_same _ _ _ (lt_of_heap h.hb), (Fr.refl _ _).putObj (.inl (by simp [RF.blks])) _⟩
theorem four {P : Nat → Prop} (h0 : P 0) (h1 : P 1) (h2 : P 2) (h3 : P 3) : ∀ j, j < 4 → P j := by
  intro j hj
  match j, hj with
  | 0, _ => exact h0
  | 1, _ => exact h1
  | 2, _ => exact h2
  | 3, _ => exact h3
theorem RIn.size {w : World} {r : RF} {D : DS} {c : Array Value} {x : Int} {cap : Nat} (h : RIn w r D c x cap) {k : Nat} (hk : k < D.s.length) : k * 4 + 3 < c.size := by
  have := h.hc k hk 3 (by omega)
  exact (Array.getElem?_eq_some_iff.1 this).1
theorem put_far (c : Array Value) (k j : Nat) (v : Value) (hj : j < 4) : ∀ i, i ≠ k → ∀ q, q < 4 → (c.setIfInBounds (k * 4 + j) v)[i * 4 + q]? = c[i * 4 + q]? := by
  intro i hi q hq
  rw [Array.getElem?_setIfInBounds, if_neg (by omega)]
theorem put_in (c : Array Value) (k j q : Nat) (v : Value) (hk : k * 4 + 3 < c.size) (hj : j < 4) : (c.setIfInBounds (k * 4 + j) v)[k * 4 + q]? = if q = j then some v else c[k * 4 + q]? := by
  rw [Array.getElem?_setIfInBounds]
  by_cases e : q = j
  · subst e; rw [if_pos rfl, if_pos rfl, if_pos (by omega)]
  · rw [if_neg (by omega), if_neg e]

theorem rread_any {w : World} {r : RF} {D : DS} (h : RAt w r D) (i : Int) :
    Calls Try.prog 39 #[.pointer (some ⟨r.p, 0, none⟩), .int .i64 i] w fun e w' => e = .returned (.tuple #[strV (D.read i).1, .int .i64 (D.read i).2]) ∧ w = w' := by
  have HI := Lib.hid (ris_any h i)
  obtain ⟨c, x, cap, h⟩ := h
  have h0 := h.c0
  have h1 := h.c1
  rcases check_cases D i with ⟨hc, ho⟩ | ⟨hc, ho, hb⟩ | ⟨hc, ho, hb⟩
  · have e : D.read i = ([], 24) := by simp [DS.read, hc, eOK]
    rw [e]
    rw [ho] at h1
    clear h hc ho e
    go_enter Try.func39, Try.ntmps39
    go_wp2
    go_ret2
    exact ⟨rfl, rfl⟩
  · have e : D.read i = ([], 1) := by simp [DS.read, hc, eOK]
    rw [e]
    rw [ho] at h1
    rw [hb] at HI
    clear h hc ho e hb
    go_enter Try.func39, Try.ntmps39
    go_wp2_with (go_at_call 58; refine HI.out.mono ?_; rintro e w' ⟨rfl, rfl⟩)
    go_ret2
    exact ⟨rfl, rfl⟩
  · have e : D.read i = ((D.sec i.toNat).seen, 0) := by simp [DS.read, hc, eOK]
    rw [e]
    rw [ho] at h1
    rw [hb] at HI
    obtain ⟨k, rfl, hk⟩ := nat_of hb
    obtain ⟨s0, s1, s2, s3⟩ := h.sec hk
    have hfew := h.few
    have hk5 : (k : Int) < D.s.length := by omega
    have hk4 : (k : Int) < 4096 := by omega
    rw [Int.toNat_natCast]
    cases hn : (D.sec k).next with
    | none =>
      have e2 : (D.sec k).seen = (D.sec k).text := by simp [Sec.seen, hn]
      rw [e2]
      rw [hn] at s2 s1
      simp only [Option.isSome_none] at s2
      generalize (D.sec k).text = t at *
      clear h hc ho e hb e2 hn s1 s3
      go_enter Try.func39, Try.ntmps39
      go_wp2_with (go_at_call 58; refine HI.out.mono ?_; rintro e w' ⟨rfl, rfl⟩)
      go_ret2
      exact ⟨rfl, rfl⟩
    | some t =>
      have e2 : (D.sec k).seen = t := by simp [Sec.seen, hn]
      rw [e2]
      rw [hn] at s2 s1
      simp only [Option.isSome_some] at s2
      simp only [Option.getD_some] at s1
      clear h hc ho e hb e2 hn s0 s3
      go_enter Try.func39, Try.ntmps39
      go_wp2_with (go_at_call 58; refine HI.out.mono ?_; rintro e w' ⟨rfl, rfl⟩)
      go_ret2
      exact ⟨rfl, rfl⟩

theorem rwear_any {w : World} {r : RF} {D : DS} (h : RAt w r D) (i : Int) :
    Calls Try.prog 44 #[.pointer (some ⟨r.p, 0, none⟩), .int .i64 i] w fun e w' => e = .returned (.int .i64 (D.wearE i)) ∧ RAt w' r (D.wear i) ∧ Fr r.blks w w' := by
  have HI := Lib.hid (ris_any h i)
  obtain ⟨c, x, cap, h⟩ := h
  have h0 := h.c0
  cases hb : D.has i with
  | false =>
    have e1 : D.wearE i = 1 := by simp [DS.wearE, hb, eArg]
    have e2 : D.wear i = D := by simp [DS.wear, hb]
    rw [e1, e2]
    rw [hb] at HI
    have hk : RAt w r D ∧ Fr r.blks w w := ⟨⟨c, x, cap, h⟩, Fr.refl _ _⟩
    have HK := Lib.hid hk
    clear h hb e1 e2 hk
    go_enter Try.func44, Try.ntmps44
    go_wp2_with (go_at_call 58; refine HI.out.mono ?_; rintro e w' ⟨rfl, rfl⟩)
    go_ret
    exact ⟨rfl, HK.out⟩
  | true =>
    have e1 : D.wearE i = 0 := by simp [DS.wearE, hb, eOK]
    have e2 : D.wear i = D.setSec i.toNat { D.sec i.toNat with worn := true } := by simp [DS.wear, hb]
    rw [e1, e2]
    rw [hb] at HI
    obtain ⟨k, rfl, hk⟩ := nat_of hb
    obtain ⟨s0, s1, s2, s3⟩ := h.sec hk
    have f3 := free_blk h.hb (k * 4 + 3)
    have hfew := h.few
    have hk5 : (k : Int) < D.s.length := by omega
    have hk4 : (k : Int) < 4096 := by omega
    rw [Int.toNat_natCast]
    have hsz := h.size hk
    obtain ⟨p1, p2, p3⟩ := h.put hk 3 (.bool true)
    have hdone : RAt (w.setCell ⟨r.b, k * 4 + 3, none⟩ (.bool true)) r (D.setSec k { D.sec k with worn := true }) ∧ Fr r.blks w (w.setCell ⟨r.b, k * 4 + 3, none⟩ (.bool true)) := by
      refine ⟨h.setSec hk { D.sec k with worn := true } (sec_ok h.ok hk) p1 p2 (four ?_ ?_ ?_ ?_) (put_far _ _ _ _ (by omega)), p3⟩
      all_goals rw [put_in _ _ _ _ _ hsz (by omega)]
      · exact h.hc k hk 0 (by omega)
      · exact h.hc k hk 1 (by omega)
      · exact h.hc k hk 2 (by omega)
      · rfl
    have HK := Lib.hid hdone
    clear h hb e1 e2 hdone p1 p2 p3 hsz s0 s1 s2
    go_enter Try.func44, Try.ntmps44
    go_wp2_with (go_at_call 58; refine HI.out.mono ?_; rintro e w' ⟨rfl, rfl⟩)
    go_ret
    exact ⟨rfl, HK.out⟩

/-! Write: the ways out -/
theorem rwrite_down {w : World} (p : Nat) (i : Int) (s : List UInt8) (h1 : w.cell? ⟨p, 1, none⟩ = some (.bool true)) :
    Calls Try.prog 38 #[.pointer (some ⟨p, 0, none⟩), .int .i64 i, strV s] w fun e w' => e = .returned (.int .i64 24) ∧ w = w' := by
  unfold strV
  go_enter Try.func38, Try.ntmps38
  go_wp2
  go_ret
  exact ⟨rfl, rfl⟩
theorem rwrite_is {w : World} (p : Nat) (i : Int) (s : List UInt8) (h1 : w.cell? ⟨p, 1, none⟩ = some (.bool false))
    (HI : Hid (Calls Try.prog 58 #[.pointer (some ⟨p, 0, none⟩), .int .i64 i] w fun e w' => e = .returned (.bool false) ∧ w = w')) :
    Calls Try.prog 38 #[.pointer (some ⟨p, 0, none⟩), .int .i64 i, strV s] w fun e w' => e = .returned (.int .i64 1) ∧ w = w' := by
  unfold strV
  go_enter Try.func38, Try.ntmps38
  go_wp2_with (go_at_call 58; refine HI.out.mono ?_; rintro e w' ⟨rfl, rfl⟩)
  go_ret
  exact ⟨rfl, rfl⟩
theorem rwrite_len {w : World} (p : Nat) (i : Int) (s : List UInt8) (h1 : w.cell? ⟨p, 1, none⟩ = some (.bool false)) (hl : ((s.length : Int) != 64) = true)
    (HI : Hid (Calls Try.prog 58 #[.pointer (some ⟨p, 0, none⟩), .int .i64 i] w fun e w' => e = .returned (.bool true) ∧ w = w')) :
    Calls Try.prog 38 #[.pointer (some ⟨p, 0, none⟩), .int .i64 i, strV s] w fun e w' => e = .returned (.int .i64 1) ∧ w = w' := by
  unfold strV
  go_enter Try.func38, Try.ntmps38
  go_wp2_with (go_at_call 58; refine HI.out.mono ?_; rintro e w' ⟨rfl, rfl⟩)
  go_ret
  exact ⟨rfl, rfl⟩
theorem rwrite_step {w W1 : World} (p : Nat) (i : Int) (s : List UInt8) (h1 : w.cell? ⟨p, 1, none⟩ = some (.bool false)) (hl : s.length = 64)
    (HI : Hid (Calls Try.prog 58 #[.pointer (some ⟨p, 0, none⟩), .int .i64 i] w fun e w' => e = .returned (.bool true) ∧ w = w'))
    (HS : Hid (Calls Try.prog 59 #[.pointer (some ⟨p, 0, none⟩)] w fun e w' => e = .returned (.int .i64 24) ∧ W1 = w')) :
    Calls Try.prog 38 #[.pointer (some ⟨p, 0, none⟩), .int .i64 i, strV s] w fun e w' => e = .returned (.int .i64 24) ∧ W1 = w' := by
  unfold strV
  go_enter Try.func38, Try.ntmps38
  go_wp2_with (first
    | (go_at_call 58; refine HI.out.mono ?_; rintro e w' ⟨rfl, rfl⟩)
    | (go_at_call 59; refine HS.out.mono ?_; rintro e w' ⟨rfl, rfl⟩))
  go_ret
  exact ⟨rfl, rfl⟩
theorem rwrite_ok {w W1 W2 : World} (p b k n cap : Nat) (s : List UInt8) (h1 : w.cell? ⟨p, 1, none⟩ = some (.bool false)) (hl : s.length = 64) (hk : (k : Int) < n)
    (HI : Hid (Calls Try.prog 58 #[.pointer (some ⟨p, 0, none⟩), .int .i64 k] w fun e w' => e = .returned (.bool true) ∧ w = w'))
    (HS : Hid (Calls Try.prog 59 #[.pointer (some ⟨p, 0, none⟩)] w fun e w' => e = .returned (.int .i64 0) ∧ W1 = w'))
    (h0 : W1.cell? ⟨p, 0, none⟩ = some (.slice (some ⟨b, 0, none⟩) n cap)) (o1 : Value) (c1 : W1.cell? ⟨b, k * 4 + 1, none⟩ = some o1) (f1 : W1.frozen? ⟨b, k * 4 + 1, none⟩ = false)
    (hset : W1.setCell ⟨b, k * 4 + 1, none⟩ (.string ⟨s.toArray⟩) = W2)
    (h02 : W2.cell? ⟨p, 0, none⟩ = some (.slice (some ⟨b, 0, none⟩) n cap)) (o2 : Value) (c2 : W2.cell? ⟨b, k * 4 + 2, none⟩ = some o2) (f2 : W2.frozen? ⟨b, k * 4 + 2, none⟩ = false) :
    Calls Try.prog 38 #[.pointer (some ⟨p, 0, none⟩), .int .i64 k, strV s] w fun e w' => e = .returned (.int .i64 0) ∧ W2.setCell ⟨b, k * 4 + 2, none⟩ (.bool true) = w' := by
  unfold strV
  go_enter Try.func38, Try.ntmps38
  go_wp2_with (first
    | (go_at_call 58; refine HI.out.mono ?_; rintro e w' ⟨rfl, rfl⟩)
    | (go_at_call 59; refine HS.out.mono ?_; rintro e w' ⟨rfl, rfl⟩))
  go_ret
  exact ⟨rfl, rfl⟩

theorem rwrite_any {w : World} {r : RF} {D : DS} (h : RAt w r D) (i : Int) (s : List UInt8) :
    Calls Try.prog 38 #[.pointer (some ⟨r.p, 0, none⟩), .int .i64 i, strV s] w fun e w' => e = .returned (.int .i64 (D.writeE i s)) ∧ RAt w' r (D.write i s) ∧ Fr r.blks w w' := by
  have HI := ris_any h i
  have h1 : w.cell? ⟨r.p, 1, none⟩ = some (.bool D.off) := by obtain ⟨c, x, cap, h⟩ := h; exact h.c1
  rcases check_cases D i with ⟨hc, ho⟩ | ⟨hc, ho, hb⟩ | ⟨hc, ho, hb⟩
  · have e1 : D.writeE i s = 24 := by simp [DS.writeE, hc, eOK]
    have e2 : D.write i s = D := by simp [DS.write, hc, eOK]
    rw [e1, e2]
    rw [ho] at h1
    exact (rwrite_down r.p i s h1).mono fun e w' ⟨he, hw⟩ => by subst hw; exact ⟨he, h, Fr.refl _ _⟩
  · have e1 : D.writeE i s = 1 := by simp [DS.writeE, hc, eOK]
    have e2 : D.write i s = D := by simp [DS.write, hc, eOK]
    rw [e1, e2]
    rw [ho] at h1
    rw [hb] at HI
    exact (rwrite_is r.p i s h1 HI).mono fun e w' ⟨he, hw⟩ => by subst hw; exact ⟨he, h, Fr.refl _ _⟩
  · rw [ho] at h1
    rw [hb] at HI
    by_cases hl : s.length = 64
    · obtain ⟨W1, hD1, hF1, hst⟩ := rstep_ex h
      rcases step_cases D with hq | ⟨hq, hs1, _⟩
      · rw [hq] at hst
        have e1 : D.writeE i s = 24 := by simp [DS.writeE, hc, hl, eOK, hq]
        have e2 : D.write i s = D.step.1 := by simp [DS.write, hc, hl, eOK, hq]
        rw [e1, e2]
        exact (rwrite_step r.p i s h1 hl HI hst).mono fun e w' ⟨he, hw⟩ => by subst hw; exact ⟨he, hD1, hF1⟩
      · rw [hq] at hst
        have e1 : D.writeE i s = 0 := by simp [DS.writeE, hc, hl, eOK, hq]
        have e2 : D.write i s = D.step.1.setSec i.toNat { D.sec i.toNat with next := some s } := by simp [DS.write, hc, hl, eOK, hq]
        rw [e1, e2]
        obtain ⟨k, rfl, hk⟩ := nat_of hb
        rw [Int.toNat_natCast]
        have esec : D.sec k = D.step.1.sec k := by unfold DS.sec; rw [hs1]
        rw [esec]
        have hk1 : k < D.step.1.s.length := by rw [hs1]; exact hk
        generalize D.step.1 = E at *
        obtain ⟨c, x, cap, h2⟩ := hD1
        have hsz := h2.size hk1
        have hfew := h2.few
        obtain ⟨s0, s1, s2, s3⟩ := h2.sec hk1
        obtain ⟨p1, p2, p3⟩ := h2.put hk1 1 (.string ⟨s.toArray⟩)
        have q0 : (W1.setCell ⟨r.b, k * 4 + 1, none⟩ (.string ⟨s.toArray⟩)).cell? ⟨r.p, 0, none⟩ = some (.slice (some ⟨r.b, 0, none⟩) E.s.length cap) := by
          rw [← h2.c0]; exact World.cell?_of_block (w := W1) p1
        have q2 : (W1.setCell ⟨r.b, k * 4 + 1, none⟩ (.string ⟨s.toArray⟩)).cell? ⟨r.b, k * 4 + 2, none⟩ = some (.bool (E.sec k).next.isSome) := by
          rw [cell_blk p2, put_in _ _ _ _ _ hsz (by omega)]
          exact h2.hc k hk1 2 (by omega)
        refine (rwrite_ok r.p r.b k E.s.length cap s h1 hl (by omega) HI hst h2.c0 _ s1 (free_blk h2.hb _) rfl q0 _ q2 (free_blk p2 _)).mono ?_
        rintro e w' ⟨he, rfl⟩
        refine ⟨he, ?_⟩
        have r1 := setCell_put _ r.b (k * 4 + 2) (.bool true) _ _ _ p2
        have hbl := lt_of_heap p2
        refine ⟨h2.setSec hk1 { E.sec k with next := some s } ?_ (w' := _) ?_ (c' := (c.setIfInBounds (k * 4 + 1) (.string ⟨s.toArray⟩)).setIfInBounds (k * 4 + 2) (.bool true)) ?_ (four ?_ ?_ ?_ ?_) ?_, ?_⟩
        · exact ⟨(sec_ok h2.ok hk1).1, fun t ht => by cases ht; exact hl⟩
        · rw [r1, heap_put_ne _ _ _ _ h2.pb]; exact p1
        · rw [r1]; exact heap_put_same _ _ _ hbl
        · rw [put_in _ _ _ _ _ (by simpa using hsz) (by omega), if_neg (by omega), put_in _ _ _ _ _ hsz (by omega), if_neg (by omega)]
          exact h2.hc k hk1 0 (by omega)
        · rw [put_in _ _ _ _ _ (by simpa using hsz) (by omega), if_neg (by omega), put_in _ _ _ _ _ hsz (by omega), if_pos rfl]
          rfl
        · rw [put_in _ _ _ _ _ (by simpa using hsz) (by omega), if_pos rfl]
          rfl
        · rw [put_in _ _ _ _ _ (by simpa using hsz) (by omega), if_neg (by omega), put_in _ _ _ _ _ hsz (by omega), if_neg (by omega)]
          exact h2.hc k hk1 3 (by omega)
        · intro i hi q hq
          rw [put_far _ _ _ _ (by omega) i hi q hq, put_far _ _ _ _ (by omega) i hi q hq]
        · refine hF1.trans (p3.trans ?_)
          rw [r1]
          exact (Fr.refl _ _).putObj (.inl (by simp [RF.blks])) _
    · have e1 : D.writeE i s = 1 := by simp [DS.writeE, hc, eOK, hl, eArg]
      have e2 : D.write i s = D := by simp [DS.write, hc, eOK, hl]
      rw [e1, e2]
      exact (rwrite_len r.p i s h1 (by rw [bne_iff_ne]; omega) HI).mono fun e w' ⟨he, hw⟩ => by subst hw; exact ⟨he, h, Fr.refl _ _⟩
end Go.Proofs.Ytoefpnmfeaimlaa
