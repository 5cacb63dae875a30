/- SameInts and same: the disk of the program reads as the one of the specification. -/
import Derived.Test.YtoefpnmfeaimlaaRDo
namespace Go.Proofs.Ytoefpnmfeaimlaa
open Go.RowKit Dk

theorem intss_ne {w : World} {S T : List Nat} {va vb : Value} {la lb : List Int} (ha : IntsIn w S va la) (hb : IntsIn w T vb lb) (hl : ((la.length : Int) != lb.length) = true) :
    Calls Try.prog 49 #[va, vb] w fun e w' => e = .returned (.bool false) ∧ Fr [] w w' := by
  obtain ⟨a, ca, rfl⟩ := ha.cells
  obtain ⟨b, cb, rfl⟩ := hb.cells
  clear ha hb
  go_enter Try.func49, Try.ntmps49
  go_wp2
  go_ret
  exact ⟨rfl, Fr.refl _ _⟩

attribute [local irreducible] Go.wpStill

set_option maxHeartbeats 400000 in
set_option maxRecDepth 100000 in
theorem intss_loop {w : World} {S T : List Nat} {a b : Option Addr} {n ca cb : Nat} {la lb : List Int} (hla : Hid (la.length = n)) (hlb : Hid (lb.length = n)) (hn : (n : Int) < 60000) (ha : Hid (IntsIn w S (.slice a n ca) la)) (hb : Hid (IntsIn w T (.slice b n cb) lb)) :
    Calls Try.prog 49 #[.slice a n ca, .slice b n cb] w fun e w' => e = .returned (.bool (decide (la = lb))) ∧ Fr [] w w' := by
  go_enter Try.func49, Try.ntmps49
  go_wp2
  go_loopw [5] (fun iv wr => ∃ j : Nat, j ≤ n ∧ iv = .int .i64 j ∧ (∀ i, i < j → la[i]? = lb[i]?) ∧ Fr [] w wr) (fun iv _ => n - (intOf iv).toNat)
  case atStart => exact ⟨0, by omega, rfl, by omega, Fr.refl _ _⟩
  case round =>
    obtain ⟨j, hj, rfl, hdone, hf⟩ := hrel
    by_cases hlt : j < n
    · have hj5 : (j : Int) < n := by omega
      have hj6 : (j : Int) < 60000 := by omega
      have hja : j < la.length := by rw [hla.out]; exact hlt
      have hjb : j < lb.length := by rw [hlb.out]; exact hlt
      obtain ⟨ba, oa, c1, e1⟩ := ha.out.place (by intro e; rw [e] at hja; simp at hja)
      obtain ⟨bb, ob, c2, e2⟩ := hb.out.place (by intro e; rw [e] at hjb; simp at hjb)
      have e3 := (Value.slice.inj e1).1
      have e4 := (Value.slice.inj e2).1
      clear e1 e2
      subst e3
      subst e4
      have ha1 := (ha.out.at (List.getElem?_eq_getElem hja))
      have hb1 := (hb.out.at (List.getElem?_eq_getElem hjb))
      have ha2 : wr.cell? ⟨ba, oa + j, none⟩ = some (.int .i64 la[j]) := by rw [← ha1]; exact World.cell?_of_block (w := w) (hf.block ba (lt_of_cell ha1) (by simp)) 
      have hb2 : wr.cell? ⟨bb, ob + j, none⟩ = some (.int .i64 lb[j]) := by rw [← hb1]; exact World.cell?_of_block (w := w) (hf.block bb (lt_of_cell hb1) (by simp)) 
      have HA := Lib.hid (List.getElem?_eq_getElem hja)
      have HB := Lib.hid (List.getElem?_eq_getElem hjb)
      have HD := Lib.hid hdone
      have HF := Lib.hid hf
      generalize la[j] = x at *
      generalize lb[j] = y at *
      clear ha1 hb1 hdone hf hja hjb
      by_cases hxy : x = y
      · subst hxy
        go_wp2
        refine wp_region_still_lit (by kernel_rfl) (by kernel_rfl) ?_
        repeat still_step
        refine wpStill_nil ?_
        rw [World.drew_eq]
        go_wp2
        go_roundw
        case rel => exact ⟨j + 1, by omega, by go_num, fun i hi => (Nat.lt_succ_iff_lt_or_eq.1 hi).elim (HD.out i) (fun e => by rw [e, HA.out, HB.out]), HF.out.drew⟩
        case measure => simp [intOf]; omega
      · have hxc : x < y ∨ y < x := by omega
        have hdec : decide (la = lb) = false := by
          rw [decide_eq_false_iff_not]
          intro e
          rw [e, HB.out] at HA
          exact hxy (Option.some.inj HA.out).symm
        have HDE := Lib.hid hdec
        have hxb : (x != y) = true := by simpa using hxy
        clear hxy hdec hxc
        go_wp2
        refine wp_region_still_lit (by kernel_rfl) (by kernel_rfl) ?_
        repeat still_step
        refine wpStill_nil ?_
        rw [World.drew_eq]
        go_wp2
        go_ret
        exact ⟨ret_bool HDE.out.symm, HF.out.drew⟩
    · obtain rfl : j = n := by omega
      have hdec : decide (la = lb) = true := by
        rw [decide_eq_true_eq]
        apply List.ext_getElem?
        intro i
        by_cases hi : i < j
        · exact hdone i hi
        · rw [List.getElem?_eq_none (by rw [hla.out]; omega), List.getElem?_eq_none (by rw [hlb.out]; omega)]
      have HDE := Lib.hid hdec
      have HF := Lib.hid hf
      clear hdec hdone hf
      go_wp2
      go_ret
      exact ⟨ret_bool HDE.out.symm, HF.out⟩

theorem intss_any {w : World} {S T : List Nat} {va vb : Value} {la lb : List Int} (ha : IntsIn w S va la) (hb : IntsIn w T vb lb) (hn : la.length < 60000) :
    Calls Try.prog 49 #[va, vb] w fun e w' => e = .returned (.bool (decide (la = lb))) ∧ Fr [] w w' := by
  by_cases hl : la.length = lb.length
  · obtain ⟨a, ca, rfl⟩ := ha.cells
    obtain ⟨b, cb, rfl⟩ := hb.cells
    rw [← hl] at hb ⊢
    exact intss_loop rfl hl.symm (by omega) ha hb
  · have e : decide (la = lb) = false := by rw [decide_eq_false_iff_not]; intro e; exact hl (by rw [e])
    rw [e]
    exact intss_ne ha hb (by rw [bne_iff_ne]; omega)

set_option maxHeartbeats 1000000 in
set_option maxRecDepth 100000 in
theorem same_any {w W : World} {f : DF} {r : RF} {D : DS} (h : Dsk w W f D) (hr : RDk w W r D) (hfew : D.s.length ≤ 4096) :
    Calls Try.prog 28 #[.pointer (some ⟨f.p, 0, none⟩), .pointer (some ⟨r.p, 0, none⟩)] W fun e W' => e = .returned (.bool true) ∧ Fr [] W W' := by
  have HF : Hid (Fr [] W W) := Fr.refl _ _
  have HD := Lib.hid h
  have HR := Lib.hid hr
  have hpl : D.pend.length < 60000 := by have := pend_few h.1; omega
  have hwl : D.wornL.length < 60000 := by
    have : D.wornL.length ≤ D.s.length := by unfold DS.wornL nums; exact Nat.le_trans (List.length_filter_le _ _) (by simp)
    omega
  have hil : D.image.length < 60000 := by have : D.image.length = D.s.length := by simp [DS.image]
                                          omega
  have HPL := Lib.hid hpl
  have HWL := Lib.hid hwl
  have HIL := Lib.hid hil
  clear h hr hpl hwl hil hfew
  go_enter Try.func28, Try.ntmps28
  go_wp2_with fail
  go_at_call 10
  refine (d_image HD.out rfl).mono ?_
  rintro e W1 ⟨v1, rfl, hv, hf⟩
  have V1 := Lib.hid hv
  have F1 := Lib.hid (HF.out.trans hf)
  have D1 := Lib.hid (HD.out.quiet hf)
  have R1 := Lib.hid (HR.out.quiet hf)
  clear hv hf HF HD HR
  go_wp2_with fail
  go_at_call 48
  refine (r_image R1.out rfl).mono ?_
  rintro e W2 ⟨v2, rfl, hv, hf⟩
  have T2 := Lib.hid (texts_any ((V1.out.inn (S := []) (by simp)).fr hf) (hv.inn (S := []) (by simp)) HIL.out)
  have F2 := Lib.hid (F1.out.trans hf)
  have D2 := Lib.hid (D1.out.quiet hf)
  have R2 := Lib.hid (R1.out.quiet hf)
  clear hv hf F1 D1 R1 V1
  go_wp2_with fail
  go_at_call 16
  refine T2.out.mono ?_
  rintro e W3 ⟨rfl, hf⟩
  simp only [decide_true]
  have F3 := Lib.hid (F2.out.trans hf)
  have D3 := Lib.hid (D2.out.quiet hf)
  have R3 := Lib.hid (R2.out.quiet hf)
  clear hf F2 D2 R2 T2
  go_wp2_with fail
  go_at_call 17
  refine (d_pending D3.out rfl).mono ?_
  rintro e W4 ⟨v4, rfl, hv, hf⟩
  have V4 := Lib.hid hv
  have F4 := Lib.hid (F3.out.trans hf)
  have D4 := Lib.hid (D3.out.quiet hf)
  have R4 := Lib.hid (R3.out.quiet hf)
  clear hv hf F3 D3 R3
  go_wp2_with fail
  go_at_call 50
  refine (r_pending R4.out rfl).mono ?_
  rintro e W5 ⟨v5, rfl, hv, hf⟩
  have T5 := Lib.hid (intss_any ((V4.out.inn (S := []) (by simp)).fr hf) (hv.inn (S := []) (by simp)) (by simpa [ints] using HPL.out))
  have F5 := Lib.hid (F4.out.trans hf)
  have D5 := Lib.hid (D4.out.quiet hf)
  have R5 := Lib.hid (R4.out.quiet hf)
  clear hv hf F4 D4 R4 V4
  go_wp2_with fail
  go_at_call 49
  refine T5.out.mono ?_
  rintro e W6 ⟨rfl, hf⟩
  simp only [decide_true]
  have F6 := Lib.hid (F5.out.trans hf)
  have D6 := Lib.hid (D5.out.quiet hf)
  have R6 := Lib.hid (R5.out.quiet hf)
  clear hf F5 D5 R5 T5
  go_wp2_with fail
  go_at_call 18
  refine (d_worn D6.out rfl).mono ?_
  rintro e W7 ⟨v7, rfl, hv, hf⟩
  have V7 := Lib.hid hv
  have F7 := Lib.hid (F6.out.trans hf)
  have D7 := Lib.hid (D6.out.quiet hf)
  have R7 := Lib.hid (R6.out.quiet hf)
  clear hv hf F6 D6 R6
  go_wp2_with fail
  go_at_call 51
  refine (r_worn R7.out rfl).mono ?_
  rintro e W8 ⟨v8, rfl, hv, hf⟩
  have T8 := Lib.hid (intss_any ((V7.out.inn (S := []) (by simp)).fr hf) (hv.inn (S := []) (by simp)) (by simpa [ints] using HWL.out))
  have F8 := Lib.hid (F7.out.trans hf)
  have D8 := Lib.hid (D7.out.quiet hf)
  have R8 := Lib.hid (R7.out.quiet hf)
  clear hv hf F7 D7 R7 V7
  go_wp2_with fail
  go_at_call 49
  refine T8.out.mono ?_
  rintro e W9 ⟨rfl, hf⟩
  simp only [decide_true]
  have F9 := Lib.hid (F8.out.trans hf)
  have D9 := Lib.hid (D8.out.quiet hf)
  have R9 := Lib.hid (R8.out.quiet hf)
  clear hf F8 D8 R8 T8
  generalize D.s.length = n at *
  go_wp2_with fail
  go_at_call 30
  refine (d_len D9.out).mono ?_
  rintro e W10 ⟨rfl, rfl⟩
  go_wp2_with fail
  go_at_call 52
  refine (r_len R9.out).mono ?_
  rintro e W11 ⟨rfl, rfl⟩
  go_wp2_with fail
  go_at_call 25
  refine (d_up D9.out).mono ?_
  rintro e W12 ⟨rfl, rfl⟩
  go_wp2_with fail
  go_at_call 53
  refine (r_up R9.out).mono ?_
  rintro e W13 ⟨rfl, rfl⟩
  go_wp2
  go_ret
  exact ⟨rfl, F9.out⟩
end Go.Proofs.Ytoefpnmfeaimlaa
