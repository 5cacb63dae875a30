/- The contracts of Pending and Worn of the disk of the specification. -/
import Derived.Test.YtoefpnmfeaimlaaRef7
namespace Go.Proofs.Ytoefpnmfeaimlaa
open Go.RowKit Dk

def numsTo (D : DS) (f : Sec → Bool) (j : Nat) : List Nat := (List.range j).filter fun i => f (D.sec i)
theorem numsTo_no (D : DS) (f : Sec → Bool) (j : Nat) (h : f (D.sec j) = false) : numsTo D f (j + 1) = numsTo D f j := by
  unfold numsTo
  rw [List.range_succ, List.filter_append]
  simp [h]
theorem numsTo_yes (D : DS) (f : Sec → Bool) (j : Nat) (h : f (D.sec j) = true) : numsTo D f (j + 1) = numsTo D f j ++ [j] := by
  unfold numsTo
  rw [List.range_succ, List.filter_append]
  simp [h]
theorem numsTo_few (D : DS) (f : Sec → Bool) (j : Nat) : (numsTo D f j).length ≤ j := by
  unfold numsTo
  exact Nat.le_trans (List.length_filter_le _ _) (by simp)
def intVs (l : List Nat) : List Value := (ints l).map (Value.int .i64)
theorem intVs_snoc (l : List Nat) (j : Nat) : intVs l ++ [.int .i64 j] = intVs (l ++ [j]) := by simp [intVs, ints]
theorem intVs_nil : intVs [] = [] := rfl

set_option maxHeartbeats 1000000 in
set_option maxRecDepth 100000 in
theorem rpending_any {w : World} {r : RF} {D : DS} (h : RAt w r D) :
    Calls Try.prog 50 #[.pointer (some ⟨r.p, 0, none⟩)] w fun e w' => ∃ v, e = .returned v ∧ IntsAt w' w.heap.size v (ints D.pend) ∧ Below w.heap.size w w' := by
  obtain ⟨c, x, cap, h⟩ := h
  have hfew : (D.s.length : Int) ≤ 4096 := by have := h.few; omega
  have HRI := Lib.hid h
  clear h
  cases hi : Try.prog.info? 3 with
  | none => have := infoI; rw [hi] at this; cases this
  | some i0 =>
  have hib := infoI
  rw [hi] at hib
  simp only [Option.map_some, Option.some.injEq, Prod.mk.injEq] at hib
  obtain ⟨hz0, hz1, hz2⟩ := hib
  have HI := Lib.hid hi
  have HZ0 := Lib.hid hz0
  have HZ1 := Lib.hid hz1
  have HZ2 := Lib.hid hz2
  clear hi hz0 hz1 hz2
  go_enter Try.func50, Try.ntmps50
  go_wp2
  go_loopw [3, 4] (fun v iv wr => ∃ j : Nat, j ≤ D.s.length ∧ iv = .int .i64 j ∧ wr.ownsRow w.heap.size 3 1 v (numsTo D (fun x => x.next.isSome) j).length (intVs (numsTo D (fun x => x.next.isSome) j)) ∧ Below w.heap.size w wr) (fun _ iv _ => D.s.length - (intOf iv).toNat)
  case atStart => exact ⟨0, Nat.zero_le _, rfl, own_nil _ _ _, Below.refl _ _⟩
  case round =>
    obtain ⟨j, hj, rfl, hown, hb⟩ := hrel
    have hRr : RIn wr r D c x cap := { HRI.out with hp := (hb.block _ (lt_of_heap HRI.out.hp)).trans HRI.out.hp, hb := (hb.block _ (lt_of_heap HRI.out.hb)).trans HRI.out.hb }
    have c0 := hRr.c0
    have HO := Lib.hid hown
    have HB := Lib.hid hb
    clear hown hb
    by_cases hlt : j < D.s.length
    · have hjn : (j : Int) < D.s.length := by omega
      have hj4 : (j : Int) < 4096 := by omega
      have hs := (hRr.sec hlt).2.2.1
      have hlen := numsTo_few D (fun x => x.next.isSome) j
      clear hRr
      cases hd : (fun x => x.next.isSome) (D.sec j) with
      | false =>
        have hx := numsTo_no D (fun x => x.next.isSome) j hd
        have hd : (D.sec j).next.isSome = false := hd
        rw [hd] at hs
        have HX := Lib.hid hx
        clear hd hx
        go_wp2
        go_roundw
        case rel => exact ⟨j + 1, by omega, by go_num, by rw [HX.out]; exact HO.out, HB.out⟩
        case measure => simp [intOf]; omega
      | true =>
        have hx := numsTo_yes D (fun x => x.next.isSome) j hd
        have hd : (D.sec j).next.isSome = true := hd
        rw [hd] at hs
        have HX := Lib.hid hx
        clear hd hx
        go_wp2_with (at_builtin; refine wpList_append_own _ rfl _ _ 36 rfl w.heap.size 3 i0 (.int .i64 0) 1 8 Try.underlying36 HI.out HZ0.out HZ1.out HZ2.out rfl (by decide) _ _ _ rfl (HO.out.alloc _) ⟨wr.heap.size, 0, none⟩ 1 1 [.int .i64 j] rfl rfl (cell_one_new _ _ _) (fun x hx => by simp at hx; subst hx; rfl) (by unfold maxLen; omega) (by omega) (by simp; have := HB.out.size; omega) ?_; intro v' w3 hown' hgrow3 hnil3; have HO' := Lib.hid hown'; have HG := Lib.hid hgrow3; clear hown' hgrow3 hnil3)
        go_roundw
        case rel =>
          refine ⟨j + 1, by omega, by go_num, ?_, below_grown HB.out HO.out HG.out⟩
          rw [HX.out, ← intVs_snoc, List.length_append]
          exact HO'.out
        case measure => simp [intOf]; omega
    · obtain rfl : j = D.s.length := by omega
      clear hRr hj
      go_wp2
      go_ret
      refine ⟨_, rfl, ?_, HB.out⟩
      have := HO.out
      unfold IntsAt
      rw [ints_len]
      exact this

set_option maxHeartbeats 1000000 in
set_option maxRecDepth 100000 in
theorem rworn_any {w : World} {r : RF} {D : DS} (h : RAt w r D) :
    Calls Try.prog 51 #[.pointer (some ⟨r.p, 0, none⟩)] w fun e w' => ∃ v, e = .returned v ∧ IntsAt w' w.heap.size v (ints D.wornL) ∧ Below w.heap.size w w' := by
  obtain ⟨c, x, cap, h⟩ := h
  have hfew : (D.s.length : Int) ≤ 4096 := by have := h.few; omega
  have HRI := Lib.hid h
  clear h
  cases hi : Try.prog.info? 3 with
  | none => have := infoI; rw [hi] at this; cases this
  | some i0 =>
  have hib := infoI
  rw [hi] at hib
  simp only [Option.map_some, Option.some.injEq, Prod.mk.injEq] at hib
  obtain ⟨hz0, hz1, hz2⟩ := hib
  have HI := Lib.hid hi
  have HZ0 := Lib.hid hz0
  have HZ1 := Lib.hid hz1
  have HZ2 := Lib.hid hz2
  clear hi hz0 hz1 hz2
  go_enter Try.func51, Try.ntmps51
  go_wp2
  go_loopw [3, 4] (fun v iv wr => ∃ j : Nat, j ≤ D.s.length ∧ iv = .int .i64 j ∧ wr.ownsRow w.heap.size 3 1 v (numsTo D (fun x => x.worn) j).length (intVs (numsTo D (fun x => x.worn) j)) ∧ Below w.heap.size w wr) (fun _ iv _ => D.s.length - (intOf iv).toNat)
  case atStart => exact ⟨0, Nat.zero_le _, rfl, own_nil _ _ _, Below.refl _ _⟩
  case round =>
    obtain ⟨j, hj, rfl, hown, hb⟩ := hrel
    have hRr : RIn wr r D c x cap := { HRI.out with hp := (hb.block _ (lt_of_heap HRI.out.hp)).trans HRI.out.hp, hb := (hb.block _ (lt_of_heap HRI.out.hb)).trans HRI.out.hb }
    have c0 := hRr.c0
    have HO := Lib.hid hown
    have HB := Lib.hid hb
    clear hown hb
    by_cases hlt : j < D.s.length
    · have hjn : (j : Int) < D.s.length := by omega
      have hj4 : (j : Int) < 4096 := by omega
      have hs := (hRr.sec hlt).2.2.2
      have hlen := numsTo_few D (fun x => x.worn) j
      clear hRr
      cases hd : (fun x => x.worn) (D.sec j) with
      | false =>
        have hx := numsTo_no D (fun x => x.worn) j hd
        have hd : (D.sec j).worn = false := hd
        rw [hd] at hs
        have HX := Lib.hid hx
        clear hd hx
        go_wp2
        go_roundw
        case rel => exact ⟨j + 1, by omega, by go_num, by rw [HX.out]; exact HO.out, HB.out⟩
        case measure => simp [intOf]; omega
      | true =>
        have hx := numsTo_yes D (fun x => x.worn) j hd
        have hd : (D.sec j).worn = true := hd
        rw [hd] at hs
        have HX := Lib.hid hx
        clear hd hx
        go_wp2_with (at_builtin; refine wpList_append_own _ rfl _ _ 36 rfl w.heap.size 3 i0 (.int .i64 0) 1 8 Try.underlying36 HI.out HZ0.out HZ1.out HZ2.out rfl (by decide) _ _ _ rfl (HO.out.alloc _) ⟨wr.heap.size, 0, none⟩ 1 1 [.int .i64 j] rfl rfl (cell_one_new _ _ _) (fun x hx => by simp at hx; subst hx; rfl) (by unfold maxLen; omega) (by omega) (by simp; have := HB.out.size; omega) ?_; intro v' w3 hown' hgrow3 hnil3; have HO' := Lib.hid hown'; have HG := Lib.hid hgrow3; clear hown' hgrow3 hnil3)
        go_roundw
        case rel =>
          refine ⟨j + 1, by omega, by go_num, ?_, below_grown HB.out HO.out HG.out⟩
          rw [HX.out, ← intVs_snoc, List.length_append]
          exact HO'.out
        case measure => simp [intOf]; omega
    · obtain rfl : j = D.s.length := by omega
      clear hRr hj
      go_wp2
      go_ret
      refine ⟨_, rfl, ?_, HB.out⟩
      have := HO.out
      unfold IntsAt
      rw [ints_len]
      exact this
end Go.Proofs.Ytoefpnmfeaimlaa
