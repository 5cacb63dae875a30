/- What DiskRefusesSizes computes: it answers true. -/
import Derived.Test.YtoefpnmfeaimlaaSanity
namespace Go.Proofs.Ytoefpnmfeaimlaa
open Go.RowKit Dk

def qX : List UInt8 := List.replicate 64 120
def q3 : DS := DS.new 3
theorem q3_has (i : Int) (h : i < 0 ∨ 2 < i) : q3.has i = false := has_false (d := q3) (i := i) (by
  rintro ⟨h1, h2⟩
  have : q3.s.length = 3 := by simp [q3, DS.new]
  omega)
theorem q3_check (i : Int) (h : i < 0 ∨ 2 < i) : q3.check i = 1 := by
  have : q3.off = false := rfl
  simp [DS.check, this, q3_has i h, eArg]
theorem q3_read (i : Int) (h : i < 0 ∨ 2 < i) : q3.read i = ([], 1) := by simp [DS.read, q3_check i h, eOK]
theorem q3_writeE (i : Int) (h : i < 0 ∨ 2 < i) (s : List UInt8) : q3.writeE i s = 1 := by simp [DS.writeE, q3_check i h, eOK]
theorem q3_write (i : Int) (h : i < 0 ∨ 2 < i) (s : List UInt8) : q3.write i s = q3 := by simp [DS.write, q3_check i h, eOK]
theorem q3_rotE (i : Int) (h : i < 0 ∨ 2 < i) (b : Int) : q3.rotE i b = 1 := by simp [DS.rotE, q3_has i h, eArg]
theorem q3_rot (i : Int) (h : i < 0 ∨ 2 < i) (b : Int) : q3.rot i b = q3 := by simp [DS.rot, q3_rotE i h, eOK]
theorem q3_wearE (i : Int) (h : i < 0 ∨ 2 < i) : q3.wearE i = 1 := by simp [DS.wearE, q3_has i h, eArg]
theorem q3_wear (i : Int) (h : i < 0 ∨ 2 < i) : q3.wear i = q3 := by simp [DS.wear, q3_has i h]
theorem q3_check0 : q3.check 0 = 0 := by decide +kernel
theorem q3_writeE0 (s : List UInt8) (h : s.length ≠ 64) : q3.writeE 0 s = 1 := by simp [DS.writeE, q3_check0, eOK, h, eArg]
theorem q3_write0 (s : List UInt8) (h : s.length ≠ 64) : q3.write 0 s = q3 := by simp [DS.write, q3_check0, eOK, h]
theorem q3_image : q3.image = [tZ, tZ, tZ] := by decide +kernel
theorem q3_pend : q3.pend = [] := by decide +kernel
theorem q3_worn : q3.wornL = [] := by decide +kernel

set_option maxHeartbeats 4000000 in
set_option maxRecDepth 100000 in
/-- The body, case by case. -/
theorem sizes_core {w : World} (n i : Int) (s : List UInt8) (D : DS) (hD : Hid (DS.new 3 = D)) (hX : Hid (List.replicate 64 120 = qX))
    (hI : Hid (D.image = [tZ, tZ, tZ])) (hP : Hid (D.pend = [])) (hW : Hid (D.wornL = []))
    (h1 : Hid (i < 0 ∨ 2 < i → D.read i = ([], 1))) (h2 : Hid (i < 0 ∨ 2 < i → ∀ s, D.writeE i s = 1)) (h3 : Hid (i < 0 ∨ 2 < i → ∀ s, D.write i s = D))
    (h4 : Hid (i < 0 ∨ 2 < i → D.rotE i 0 = 1)) (h5 : Hid (i < 0 ∨ 2 < i → D.rot i 0 = D)) (h6 : Hid (i < 0 ∨ 2 < i → D.wearE i = 1)) (h7 : Hid (i < 0 ∨ 2 < i → D.wear i = D))
    (h8 : Hid (s.length ≠ 64 → D.writeE 0 s = 1)) (h9 : Hid (s.length ≠ 64 → D.write 0 s = D)) :
    Calls Try.prog 3 #[.int .i64 n, .int .i64 i, .string ⟨s.toArray⟩] w fun e W' => e = .returned (.bool true) ∧ Below w.heap.size w W' := by
  have hn' : (n < 1 ∨ 4096 < n) ∨ (1 ≤ n ∧ n ≤ 4096) := by omega
  rcases hn' with (hn | hn) | ⟨hn, hn2⟩
  case' inl.inl =>
    go_enter Try.func3, Try.ntmps3
    go_wp2_with fail
    go_at_call 8
    refine sanity_any.mono ?_
    rintro e W0 ⟨rfl, hb⟩
    have B0 := Lib.hid hb
    clear hb
    go_wp2_with fail
    go_at_call 9
    refine (new_arg n (.inl hn)).mono ?_
    rintro e W1 ⟨rfl, rfl⟩
  case' inl.inr =>
    have hn1 : 1 ≤ n := by omega
    go_enter Try.func3, Try.ntmps3
    go_wp2_with fail
    go_at_call 8
    refine sanity_any.mono ?_
    rintro e W0 ⟨rfl, hb⟩
    have B0 := Lib.hid hb
    clear hb
    go_wp2_with fail
    go_at_call 9
    refine (new_arg n (.inr hn)).mono ?_
    rintro e W1 ⟨rfl, rfl⟩
  case' inr =>
    go_enter Try.func3, Try.ntmps3
    go_wp2_with fail
    go_at_call 8
    refine sanity_any.mono ?_
    rintro e W0 ⟨rfl, hb⟩
    have B0 := Lib.hid hb
    clear hb
  all_goals
    go_wp2_with fail
    go_at_call 9
    refine (d_new B0.out 3 (by omega) (by omega)).mono ?_
    rintro e W2 ⟨f, rfl, hd, -, -⟩
    rw [hD.out] at hd
    have H2 := Lib.hid hd
    clear hd B0
    go_wp2_with fail
    go_at_call 10
    refine (d_image H2.out hI.out).mono ?_
    rintro e W3 ⟨v, rfl, hv, hf⟩
    have hv2 := hv.inn (S := f.blks) H2.out.1.lt
    obtain ⟨va, vc, rfl⟩ := hv2.cells
    have V3 := Lib.hid hv2
    have H3 := Lib.hid (H2.out.quiet hf)
    clear hf H2 hv hv2
    have hi' : (i < 0 ∨ (0 ≤ i ∧ 2 < i)) ∨ (0 ≤ i ∧ i ≤ 2) := by omega
    rcases hi' with (hi2 | ⟨hi2, hi3⟩) | ⟨hi2, hi3⟩
    case' inl.inl => have ho : i < 0 ∨ 2 < i := .inl hi2
    case' inl.inr => have ho : i < 0 ∨ 2 < i := .inr hi3
    case' inl.inl | inl.inr =>
      go_wp2_with fail
      go_at_call 11
      refine (d_read H3.out (h1.out ho)).mono ?_
      rintro e W4 ⟨rfl, hf⟩
      have H4 := Lib.hid (H3.out.quiet hf)
      have V4 := Lib.hid (V3.out.fr (hf.mono (by simp)))
      clear hf H3 V3
      unfold strV
      go_wp2_with fail
      go_at_call 13
      refine (d_full 120 120 rfl hX.out).mono ?_
      rintro e W5 ⟨rfl, hf⟩
      have H5 := Lib.hid (H4.out.quiet hf)
      have V5 := Lib.hid (V4.out.fr (hf.mono (by simp)))
      clear hf H4 V4
      go_wp2_with fail
      go_at_call 12
      refine (d_write H5.out (h2.out ho qX) (h3.out ho qX)).mono ?_
      rintro e W6 ⟨rfl, hd, hf⟩
      have H6 := Lib.hid hd
      have V6 := Lib.hid (V5.out.fr hf)
      clear hf hd H5 V5
      go_wp2_with fail
      go_at_call 14
      refine (d_rot H6.out (h4.out ho) (h5.out ho)).mono ?_
      rintro e W7 ⟨rfl, hd, hf⟩
      have H7 := Lib.hid hd
      have V7 := Lib.hid (V6.out.fr hf)
      clear hf hd H6 V6
      go_wp2_with fail
      go_at_call 15
      refine (d_wear H7.out (h6.out ho) (h7.out ho)).mono ?_
      rintro e W3 ⟨rfl, hd, hf⟩
      have H3 := Lib.hid hd
      have V3 := Lib.hid (V7.out.fr hf)
      clear hf hd H7 V7 ho
    all_goals
      have hs : ((s.length : Int) != 64) = true ∨ ((s.length : Int) != 64) = false := by cases ((s.length : Int) != 64) <;> simp
      rcases hs with hs | hs
      case' inl =>
        have hs2 : s.length ≠ 64 := by
          intro e
          rw [e] at hs
          simp at hs
        have HS2 := Lib.hid hs2
        clear hs2
        go_wp2_with fail
        go_at_call 12
        refine (d_write H3.out (h8.out HS2.out) (h9.out HS2.out)).mono ?_
        rintro e W8 ⟨rfl, hd, hf⟩
        have H8 := Lib.hid hd
        have V8 := Lib.hid (V3.out.fr hf)
        clear hf hd H3 V3 HS2
      case' inr =>
        have H8 := H3
        have V8 := V3
        clear H3 V3
      all_goals
        go_wp2_with fail
        go_at_call 10
        refine (d_image H8.out hI.out).mono ?_
        rintro e W9 ⟨v, rfl, hv, hf⟩
        have T9 := Lib.hid (texts_any (V8.out.fr (hf.mono (by simp))) (hv.inn (S := f.blks) H8.out.1.lt) (by simp))
        have H9 := Lib.hid (H8.out.quiet hf)
        clear hf H8 V8 hv
        go_wp2_with fail
        go_at_call 16
        refine T9.out.mono ?_
        rintro e W10 ⟨rfl, hf⟩
        simp only [decide_true]
        have H10 := Lib.hid (H9.out.quiet hf)
        clear hf H9 T9
        go_wp2_with fail
        go_at_call 17
        refine (d_pending H10.out hP.out).mono ?_
        rintro e W11 ⟨v, rfl, hv, hf⟩
        obtain ⟨pa, pc, rfl⟩ := (hv.inn (S := []) (by simp)).cells
        have H11 := Lib.hid (H10.out.quiet hf)
        clear hf H10 hv
        rw [show (ints []).length = 0 from rfl]
        go_wp2_with fail
        go_at_call 18
        refine (d_worn H11.out hW.out).mono ?_
        rintro e W12 ⟨v, rfl, hv, hf⟩
        obtain ⟨wa, wc, rfl⟩ := (hv.inn (S := []) (by simp)).cells
        have H12 := Lib.hid (H11.out.quiet hf)
        clear hf H11 hv
        rw [show (ints []).length = 0 from rfl]
        go_wp2
        go_ret
        exact ⟨rfl, H12.out.below⟩

theorem sizes_any {w : World} (n i : Int) (s : List UInt8) :
    Calls Try.prog 3 #[.int .i64 n, .int .i64 i, .string ⟨s.toArray⟩] w fun e W' => e = .returned (.bool true) ∧ Below w.heap.size w W' :=
  sizes_core n i s q3 (Lib.hid rfl) (Lib.hid rfl) (Lib.hid q3_image) (Lib.hid q3_pend) (Lib.hid q3_worn)
    (Lib.hid (q3_read i)) (Lib.hid (q3_writeE i)) (Lib.hid (q3_write i)) (Lib.hid fun h => q3_rotE i h 0) (Lib.hid fun h => q3_rot i h 0) (Lib.hid (q3_wearE i)) (Lib.hid (q3_wear i))
    (Lib.hid (q3_writeE0 s)) (Lib.hid (q3_write0 s))
end Go.Proofs.Ytoefpnmfeaimlaa
