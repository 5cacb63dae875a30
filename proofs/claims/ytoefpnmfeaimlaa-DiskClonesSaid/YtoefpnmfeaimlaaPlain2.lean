/- What Mount and Flush do to each sector; the disk that is only written and flushed. No program here. -/
import Derived.Test.YtoefpnmfeaimlaaPlain
namespace Go.Proofs.Ytoefpnmfeaimlaa.Dk

/-- The number of pending sectors in front of a sector. -/
def DS.rank (D : DS) (i : Nat) : Nat := ((List.range i).filter fun k => (D.sec k).next.isSome).length
theorem settle_none {x : Sec} (h : x.next.isSome = false) (p : Int) : x.settle p = x := by
  unfold Sec.settle
  cases hx : x.next with
  | none => rfl
  | some t => rw [hx] at h; cases h
theorem pend_eq (D : DS) : D.pend = (List.range D.s.length).filter fun k => (D.sec k).next.isSome := rfl
theorem settleAll_range (D : DS) (picks : List Int) : ∀ (m : Nat), m ≤ D.s.length → ∀ j, (D.settleAll picks 0 ((List.range m).filter fun k => (D.sec k).next.isSome)).sec j = if j < m then (D.sec j).settle (pickAt picks (D.rank j)) else D.sec j
  | 0, _, j => by simp [DS.settleAll]
  | m + 1, hm, j => by
    have ih := settleAll_range D picks m (by omega)
    rw [List.range_succ, List.filter_append]
    by_cases hp : (D.sec m).next.isSome = true
    · have e : List.filter (fun k => (D.sec k).next.isSome) [m] = [m] := by simp [hp]
      rw [e, settleAll_snoc, settle_sec _ _ _ _ (by rw [settleAll_len]; omega), ih m, if_neg (Nat.lt_irrefl m), ih j, Nat.zero_add]
      by_cases h : j = m
      · subst h
        rw [if_pos rfl, if_pos (by omega)]
        rfl
      · rw [if_neg h]
        by_cases h2 : j < m
        · rw [if_pos h2, if_pos (by omega)]
        · rw [if_neg h2, if_neg (by omega)]
    · have hp : (D.sec m).next.isSome = false := by simpa using hp
      have e : List.filter (fun k => (D.sec k).next.isSome) [m] = [] := by simp [hp]
      rw [e, List.append_nil, ih j]
      by_cases h : j = m
      · subst h
        rw [if_neg (Nat.lt_irrefl j), if_pos (by omega), settle_none hp]
      · by_cases h2 : j < m
        · rw [if_pos h2, if_pos (by omega)]
        · rw [if_neg h2, if_neg (by omega)]
theorem settled_sec (D : DS) (picks : List Int) (j : Nat) (hj : j < D.s.length) : (D.settleAll picks 0 D.pend).sec j = (D.sec j).settle (pickAt picks (D.rank j)) := by
  rw [pend_eq, settleAll_range D picks _ (Nat.le_refl _), if_pos hj]
theorem mount_len (D : DS) (picks : List Int) : (D.mount picks).s.length = D.s.length := settleAll_len picks _ D 0
theorem mount_sec (D : DS) (picks : List Int) (j : Nat) (hj : j < D.s.length) : (D.mount picks).sec j = (D.sec j).settle (pickAt picks (D.rank j)) := settled_sec D picks j hj
theorem settle_next (x : Sec) (p : Int) : (x.settle p).next = none := by
  unfold Sec.settle
  cases h : x.next <;> simp [h]
theorem sec_ext {d e : DS} (hl : d.s.length = e.s.length) (h : ∀ j, j < d.s.length → d.sec j = e.sec j) : d.s = e.s := by
  apply List.ext_getElem hl
  intro i h1 h2
  have := h i h1
  simpa [DS.sec, List.getD, h1, h2] using this
theorem sec_get (D : DS) (j : Nat) (hj : j < D.s.length) : D.s[j]? = some (D.sec j) := by simp [DS.sec, List.getD, hj]
theorem image_get (D : DS) (j : Nat) (hj : j < D.s.length) : D.image[j]? = some (D.sec j).text := by simp [DS.image, sec_get D j hj]
theorem image_len (D : DS) : D.image.length = D.s.length := by simp [DS.image]
theorem mount_pend (D : DS) (picks : List Int) : (D.mount picks).pend = [] := by
  rw [pend_eq, List.filter_eq_nil_iff]
  intro i hi
  rw [List.mem_range, mount_len] at hi
  rw [mount_sec D picks i hi, settle_next]
  simp

theorem step_len (D : DS) : D.step.1.s.length = D.s.length := by
  unfold DS.step
  split <;> rfl
theorem write_len' (D : DS) (i : Int) (t : List UInt8) : (D.write i t).s.length = D.s.length := by
  unfold DS.write
  split
  · rfl
  · split
    · rfl
    · split
      · exact step_len D
      · rw [len_set, step_len]
theorem flush_len' (D : DS) : D.flush.s.length = D.s.length := by
  unfold DS.flush
  split
  · rfl
  · split
    · exact step_len D
    · rw [settleAll_len, step_len]
theorem rot_len (D : DS) (i b : Int) : (D.rot i b).s.length = D.s.length := by
  unfold DS.rot
  split
  · rw [len_set]
  · rfl
theorem wear_len (D : DS) (i : Int) : (D.wear i).s.length = D.s.length := by
  unfold DS.wear
  split
  · rw [len_set]
  · rfl

/-- A disk that was only written and flushed, under power: each sector reads as l says. -/
structure Keep (D : DS) (l : List (List UInt8)) : Prop where
  off : D.off = false
  left : D.left = none
  len : l.length = D.s.length
  worn : ∀ j, j < D.s.length → (D.sec j).worn = false
  seen : ∀ j, j < D.s.length → l[j]? = some (D.sec j).seen
  ok : D.ok
theorem keep_step {D : DS} (h : D.left = none) : D.step = (D, eOK) := by simp [DS.step, h]
theorem sec_of_ok {D : DS} (h : D.ok) {k : Nat} (hk : k < D.s.length) : (D.sec k).ok := by
  apply h
  have := sec_get D k hk
  exact List.mem_of_getElem? this
theorem ok_new (n : Nat) : (DS.new n).ok := by
  intro x hx
  have : x = fresh := (List.mem_replicate.1 hx).2
  subst this
  exact ⟨by simp [fresh, zero64], fun t h => by cases h⟩
theorem new_len (n : Nat) : (DS.new n).s.length = n := by simp [DS.new]
theorem new_sec (n i : Nat) : (DS.new n).sec i = fresh := by
  unfold DS.new DS.sec
  by_cases h : i < n
  · simp [List.getD, h]
  · simp [List.getD, h]
theorem keep_new (n : Nat) : Keep (DS.new n) (List.replicate n zero64) := by
  refine ⟨rfl, rfl, by simp [DS.new], fun j _ => by rw [new_sec]; rfl, fun j hj => ?_, ok_new n⟩
  rw [new_len] at hj
  rw [new_sec, List.getElem?_replicate, if_pos hj]
  rfl
theorem keep_no {D : DS} {l : List (List UInt8)} (h : Keep D l) {i : Int} {t : List UInt8} (he : D.writeE i t ≠ 0) : D.write i t = D := by
  have hs := keep_step h.left
  unfold DS.writeE at he
  unfold DS.write
  rw [hs] at he ⊢
  by_cases h1 : D.check i ≠ eOK
  · rw [if_pos h1]
  · rw [if_neg h1] at he ⊢
    by_cases h2 : t.length ≠ 64
    · rw [if_pos h2]
    · rw [if_neg h2] at he
      exact absurd rfl he
theorem keep_write {D : DS} {l : List (List UInt8)} (h : Keep D l) {i : Int} {t : List UInt8} (he : D.writeE i t = 0) : (0 ≤ i ∧ i < D.s.length) ∧ Keep (D.write i t) (l.set i.toNat t) := by
  have hs := keep_step h.left
  unfold DS.writeE at he
  unfold DS.write
  rw [hs] at he ⊢
  by_cases h1 : D.check i ≠ eOK
  · rw [if_pos h1] at he; exact absurd he h1
  · rw [if_neg h1] at he ⊢
    by_cases h2 : t.length ≠ 64
    · rw [if_pos h2] at he; cases he
    · rw [if_neg h2] at he ⊢
      rw [if_neg (fun e => e rfl)]
      have hi : 0 ≤ i ∧ i < D.s.length := by
        rw [← has_iff]
        unfold DS.check at h1
        rw [h.off] at h1
        by_cases hh : D.has i = true
        · exact hh
        · simp only [Bool.false_eq_true, if_false, hh] at h1
          exact absurd (by decide) h1
      have hk : i.toNat < D.s.length := by omega
      have h2 : t.length = 64 := Decidable.of_not_not h2
      refine ⟨hi, h.off, h.left, by rw [List.length_set, len_set]; exact h.len, fun j hj => ?_, fun j hj => ?_, ok_set h.ok ⟨(sec_of_ok h.ok hk).1, fun u hu => by cases hu; exact h2⟩⟩
      · rw [len_set] at hj
        rw [sec_set _ _ _ _ hk]
        split
        · exact h.worn _ hk
        · exact h.worn _ hj
      · rw [len_set] at hj
        rw [sec_set _ _ _ _ hk, List.getElem?_set]
        by_cases e : i.toNat = j
        · subst e
          rw [if_pos rfl, if_pos (by rw [h.len]; exact hk), if_pos rfl]
          rfl
        · rw [if_neg e, if_neg (fun e' => e e'.symm)]
          exact h.seen j hj
theorem keep_settle {D : DS} {l : List (List UInt8)} (h : Keep D l) (j : Nat) (hj : j < D.s.length) : (D.sec j).settle 64 = ⟨(D.sec j).seen, none, false⟩ := by
  have hw := h.worn j hj
  have hok := sec_of_ok h.ok hj
  cases hx : D.sec j with
  | mk text next worn =>
    rw [hx] at hw hok
    simp only at hw
    subst hw
    cases next with
    | none => rfl
    | some t =>
      have ht : t.length = 64 := hok.2 t rfl
      have hxl : text.length = 64 := hok.1
      have hc : clamp 64 = 64 := by decide
      simp [Sec.settle, Sec.seen, hc, List.take_of_length_le (by omega : t.length ≤ 64), List.drop_of_length_le (by omega : text.length ≤ 64)]
theorem pick_none (k : Nat) : pickAt [] k = 64 := by simp [pickAt]
theorem keep_flush {D : DS} {l : List (List UInt8)} (h : Keep D l) : D.flushE = 0 ∧ Keep D.flush l ∧ D.flush.image = l ∧ ∀ picks, (D.flush.mount picks).image = l := by
  have hs := keep_step h.left
  have e1 : D.flushE = 0 := by simp [DS.flushE, h.off, hs, eOK]
  have e2 : D.flush = D.settleAll [] 0 D.pend := by simp [DS.flush, h.off, hs, eOK]
  have hlen : D.flush.s.length = D.s.length := by rw [e2, settleAll_len]
  have hsec : ∀ j, j < D.s.length → D.flush.sec j = ⟨(D.sec j).seen, none, false⟩ := fun j hj => by rw [e2, settled_sec D [] j hj, pick_none, keep_settle h j hj]
  have hseen : ∀ j, j < D.s.length → (D.sec j).seen.length = 64 := fun j hj => by
    have hok := sec_of_ok h.ok hj
    unfold Sec.seen
    cases hn : (D.sec j).next with
    | none => exact hok.1
    | some t => exact hok.2 t hn
  have himg : ∀ E : DS, E.s.length = D.s.length → (∀ j, j < D.s.length → (E.sec j).text = (D.sec j).seen) → E.image = l := by
    intro E hE hsx
    apply List.ext_getElem?
    intro j
    by_cases hj : j < D.s.length
    · rw [image_get E j (by omega), h.seen j hj, hsx j hj]
    · rw [List.getElem?_eq_none (by rw [image_len]; omega), List.getElem?_eq_none (by rw [h.len]; omega)]
  refine ⟨e1, ⟨?_, ?_, by rw [hlen]; exact h.len, fun j hj => ?_, fun j hj => ?_, fun x hx => ?_⟩, himg _ hlen fun j hj => by rw [hsec j hj], fun picks => himg _ (by rw [mount_len, hlen]) fun j hj => ?_⟩
  · rw [e2]; exact (settleAll_off [] _ D 0).1.trans h.off
  · rw [e2]; exact (settleAll_off [] _ D 0).2.trans h.left
  · rw [hlen] at hj; rw [hsec j hj]
  · rw [hlen] at hj; rw [hsec j hj]; exact h.seen j hj
  · obtain ⟨j, hj, rfl⟩ := List.getElem_of_mem hx
    have hj' : j < D.s.length := by omega
    have := sec_get D.flush j hj
    rw [List.getElem?_eq_getElem hj] at this
    rw [Option.some.inj this, hsec j hj']
    exact ⟨hseen j hj', fun t ht => by cases ht⟩
  · rw [mount_sec _ _ _ (by omega), hsec j hj]
    rfl
end Go.Proofs.Ytoefpnmfeaimlaa.Dk
