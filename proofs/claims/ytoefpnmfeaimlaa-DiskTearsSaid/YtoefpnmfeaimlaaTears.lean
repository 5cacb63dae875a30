/- What DiskTears computes: it answers true. -/
import Derived.Test.YtoefpnmfeaimlaaRots
import Derived.Test.YtoefpnmfeaimlaaRDo
namespace Go.Proofs.Ytoefpnmfeaimlaa
open Go.RowKit Dk

theorem cell_alloc {W : World} {a : Addr} {v : Value} (h : W.cell? a = some v) (o : Obj) : (W.alloc o).cell? a = some v := by
  rw [← h]; exact World.cell?_of_block (w := W) (heap_alloc_lt W o _ (lt_of_cell h))
theorem Dk.rank_no (D : DS) (i : Nat) (h : (D.sec i).next.isSome = false) : D.rank (i + 1) = D.rank i := by
  unfold DS.rank
  rw [List.range_succ, List.filter_append]
  simp [h]
theorem Dk.rank_yes (D : DS) (i : Nat) (h : (D.sec i).next.isSome = true) : D.rank (i + 1) = D.rank i + 1 := by
  unfold DS.rank
  rw [List.range_succ, List.filter_append]
  simp [h]
theorem Dk.rank_le (D : DS) (i : Nat) : D.rank i ≤ i := by
  unfold DS.rank
  exact Nat.le_trans (List.length_filter_le _ _) (by simp)

set_option maxRecDepth 100000 in
theorem tears_none {w : World} (n : Int) (hn : n < 1 ∨ 64 < n) (a : Option Addr) (len : Nat) (cap : Nat) (pv : Value) :
    Calls Try.prog 5 #[.int .i64 n, .slice a len cap, pv] w fun e W' => e = .returned (.bool true) ∧ Below w.heap.size w W' := by
  rcases hn with hn | hn
  case' inr => have hn1 : 1 ≤ n := by omega
  all_goals
    go_enter Try.func5, Try.ntmps5
    go_wp2_with fail
    go_at_call 8
    refine sanity_any.mono ?_
    rintro e W0 ⟨rfl, hb⟩
    have B0 := Lib.hid hb
    clear hb
    go_wp2_with fail
    go_at_call 19
    refine (start_none n (by omega)).mono ?_
    rintro e W1 ⟨rfl, rfl⟩
    go_wp2
    go_ret
    exact ⟨rfl, B0.out⟩

set_option maxRecDepth 100000 in
theorem tears_long {w : World} (n : Nat) (hn : (1 : Int) ≤ n) (hn2 : (n : Int) ≤ 64) (a : Option Addr) (len : Nat) (hl : (60 : Int) < len) (cap : Nat) (pv : Value) :
    Calls Try.prog 5 #[.int .i64 n, .slice a len cap, pv] w fun e W' => e = .returned (.bool true) ∧ Below w.heap.size w W' := by
  go_enter Try.func5, Try.ntmps5
  go_wp2_with fail
  go_at_call 8
  refine sanity_any.mono ?_
  rintro e W0 ⟨rfl, hb⟩
  have B0 := Lib.hid hb
  clear hb
  go_wp2_with fail
  go_at_call 19
  refine (start_any B0.out n hn hn2).mono ?_
  rintro e W1 ⟨f, r, rfl, hd, -, -, -⟩
  have HD := Lib.hid hd
  clear hd
  go_wp2
  go_ret
  exact ⟨rfl, HD.out.below⟩


attribute [local irreducible] Go.wpStill

set_option maxHeartbeats 2000000 in
set_option maxRecDepth 100000 in
theorem tears_core {w : World} (n : Nat) (hn : (1 : Int) ≤ n) (hn2 : (n : Int) ≤ 64) (a : Option Addr) (l : List OpD) (hl : (l.length : Int) ≤ 60) (cap : Nat) (ho : Hid (OpsIn w (.slice a l.length cap) l))
    (pa : Option Addr) (picks : List Int) (pc : Nat) (hp : Hid (IntsIn w [] (.slice pa picks.length pc) picks)) :
    Calls Try.prog 5 #[.int .i64 n, .slice a l.length cap, .slice pa picks.length pc] w fun e W' => e = .returned (.bool true) ∧ Below w.heap.size w W' := by
  go_enter Try.func5, Try.ntmps5
  go_wp2_with fail
  go_at_call 8
  refine sanity_any.mono ?_
  rintro e W0 ⟨rfl, hb⟩
  have B0 := Lib.hid hb
  clear hb
  go_wp2_with fail
  go_at_call 19
  refine (start_any B0.out n hn hn2).mono ?_
  rintro e W1 ⟨f, r, rfl, hd, hr, hdis, -⟩
  have HD := Lib.hid hd
  have HR := Lib.hid hr
  have HS1 := Lib.hid hdis
  have HS2 : Hid (∀ b ∈ f.blks, b ∉ r.blks) := fun b hb hb' => hdis b hb' hb
  have HF2 := Lib.hid hd.2.2
  have HR2 := Lib.hid hr.2.2
  clear hd hr hdis
  go_wp2
  go_loopw [11] (fun iv wr => ∃ (i : Nat) (D : DS), i ≤ l.length ∧ iv = .int .i64 i ∧ Dsk w wr f D ∧ RDk w wr r D ∧ D.s.length = n) (fun iv _ => l.length - (intOf iv).toNat)
  case atStart => exact ⟨0, DS.new n, Nat.zero_le _, rfl, HD.out, HR.out, new_len n⟩
  case round =>
    clear HD HR
    obtain ⟨i, D, hi, rfl, hd, hr, hDn⟩ := hrel
    have HD := Lib.hid hd
    have HR := Lib.hid hr
    have HDN := Lib.hid hDn
    clear hd hr hDn
    by_cases hlt : i < l.length
    · have hin : (i : Int) < l.length := by omega
      obtain ⟨b, o, c1, e1⟩ := ho.out.place (by intro e; rw [e] at hlt; simp at hlt)
      have e3 := (Value.slice.inj e1).1
      clear e1
      subst e3
      have hgx := List.getElem?_eq_getElem hlt
      generalize l[i] = x at hgx
      have HGX := Lib.hid hgx
      obtain ⟨xa, xc, ⟨d0, d1, d2, d3, d4⟩, hpk, hxi⟩ := ho.out.at HD.out.below hgx
      obtain ⟨kind, xi, bit, text, xpicks⟩ := x
      simp only at d0 d1 d2 d3 d4 hpk hxi
      have HPK := Lib.hid hpk
      have HXI := Lib.hid hxi
      clear hpk hxi hgx
      go_wp2_with fail
      go_at_call 20
      refine (do_any HD.out ⟨kind, xi, bit, text, xpicks⟩ (.slice xa xpicks.length xc) (HPK.out.late HD.out.below HF2.out) HXI.out).mono ?_
      rintro e W2 ⟨rfl, hd2, hf2⟩
      have hr2 := HR.out.other hf2 HF2.out HS1.out
      have HD2 := Lib.hid hd2
      have HRR := Lib.hid hr2
      clear hd2 hf2 hr2 d0 d1 d2 d3 d4 HD HR
      obtain ⟨xa', xc', ⟨d0, d1, d2, d3, d4⟩, hpk, hxi⟩ := ho.out.at HD2.out.below HGX.out
      simp only at d0 d1 d2 d3 d4 hpk hxi
      have HPK' := Lib.hid hpk
      clear hpk hxi
      generalize D.doR ⟨kind, xi, bit, text, xpicks⟩ = res
      unfold strV
      go_wp2_with fail
      go_at_call 24
      refine (rdo_any HRR.out ⟨kind, xi, bit, text, xpicks⟩ (.slice xa' xpicks.length xc') (HPK'.out.late HRR.out.below HR2.out) HXI.out).mono ?_
      rintro e W3 ⟨rfl, hr3, hf3⟩
      have hd3 := HD2.out.other hf3 HR2.out HS2.out
      have HD3 := Lib.hid hd3
      have HR3 := Lib.hid hr3
      clear hd3 hf3 hr3 d0 d1 d2 d3 d4 HD2 HRR
      generalize D.doR ⟨kind, xi, bit, text, xpicks⟩ = res
      unfold strV
      go_wp2
      go_roundw
      case rel => exact ⟨i + 1, _, by omega, by go_num, HD3.out, HR3.out, (doOp_len D _).trans HDN.out⟩
      case measure => simp [intOf]; omega
    · obtain rfl : i = l.length := by omega
      clear ho hlt hi
      have HOK := Lib.hid HD.out.1.ok'
      have HML := Lib.hid ((mount_len D picks).trans HDN.out)
      go_wp2_with fail
      go_at_call 10
      refine (d_image HD.out rfl).mono ?_
      rintro e W2 ⟨v2, rfl, hv2, hf2⟩
      obtain ⟨La, ca, rfl, hLa, hA⟩ := hv2.inn' (S := f.blks) HD.out.1.lt
      have HA2 := Lib.hid hA
      have HD2 := Lib.hid (HD.out.quiet hf2)
      have HRR2 := Lib.hid (HR.out.quiet hf2)
      clear hv2 hA hf2 HD HR
      rw [image_len, HDN.out] at HA2 ⊢
      go_wp2_with fail
      go_at_call 23
      refine (d_mount HD2.out (hp.out.late HD2.out.below HF2.out) rfl).mono ?_
      rintro e W3 ⟨rfl, hd3, hf3⟩
      have HA3 := Lib.hid (HA2.out.fr hf3)
      have HRR3 := Lib.hid (HRR2.out.other hf3 HF2.out HS1.out)
      have HD3 := Lib.hid hd3
      clear hd3 hf3 HA2 HD2 HRR2
      go_wp2_with fail
      go_at_call 10
      refine (d_image HD3.out rfl).mono ?_
      rintro e W4 ⟨v4, rfl, hv4, hf4⟩
      obtain ⟨Lb, cb, rfl, hLb, hB⟩ := hv4.inn' (S := f.blks) HD3.out.1.lt
      have HA4 := Lib.hid (HA3.out.fr (hf4.mono (by simp)))
      have HD4 := Lib.hid (HD3.out.quiet hf4)
      have HRR4 := Lib.hid (HRR3.out.quiet hf4)
      have HB4 := Lib.hid hB
      clear hv4 hB hf4 HA3 HD3 HRR3
      rw [image_len, HML.out] at HB4 ⊢
      go_wp2_with fail
      go_at_call 17
      refine (d_pending HD4.out (mount_pend D picks)).mono ?_
      rintro e W5 ⟨v5, rfl, hv5, hf5⟩
      obtain ⟨pa5, pc5, rfl⟩ := (hv5.inn (S := []) (by simp)).cells
      have HA5 := Lib.hid (HA4.out.fr (hf5.mono (by simp)))
      have HB5 := Lib.hid (HB4.out.fr (hf5.mono (by simp)))
      have HD5 := Lib.hid (HD4.out.quiet hf5)
      have HRR5 := Lib.hid (HRR4.out.quiet hf5)
      clear hv5 hf5 HA4 HB4 HD4 HRR4
      rw [show (ints []).length = 0 from rfl]
      go_wp2_with fail
      go_at_call 25
      refine (d_up HD5.out).mono ?_
      rintro e W6 ⟨rfl, rfl⟩
      rw [show (D.mount picks).off = false from rfl, Bool.not_false]
      go_wp2
      go_loopw [14, 15] (fun kv iv wr => ∃ i : Nat, i ≤ n ∧ iv = .int .i64 i ∧ kv = .int .i64 (D.rank i) ∧ RDk w wr r D ∧ StrsIn wr [] (.slice (some ⟨La, 0, none⟩) n ca) D.image ∧ StrsIn wr [] (.slice (some ⟨Lb, 0, none⟩) n cb) (D.mount picks).image) (fun _ iv _ => n - (intOf iv).toNat)
      case atStart => exact ⟨0, Nat.zero_le _, rfl, rfl, HRR5.out, HA5.out.mono (by simp), HB5.out.mono (by simp)⟩
      case round =>
        clear HA5 HB5 HRR5 HD5
        obtain ⟨i, hi, rfl, rfl, hr, hA, hB⟩ := hrel
        have HR := Lib.hid hr
        have HA := Lib.hid hA
        have HB := Lib.hid hB
        clear hr hA hB
        by_cases hlt : i < n
        · have hin : (i : Int) < n := by omega
          have hiD : i < D.s.length := by rw [HDN.out]; exact hlt
          have ca := HA.out.at0 (image_get D i hiD)
          have cb := HB.out.at0 (image_get (D.mount picks) i (by rw [HML.out]; exact hlt))
          rw [mount_sec D picks i hiD] at cb
          have hok := sec_of_ok HOK.out hiD
          obtain ⟨c, x, rcap, hR⟩ := HR.out.1
          have r0 := hR.c0
          have rs := hR.sec hiD
          have hrk := rank_le D i
          have hrk1 := rank_no D i
          have hrk2 := rank_yes D i
          rw [HDN.out] at r0
          clear hR
          cases hs : D.sec i with
          | mk text next worn =>
          rw [hs] at ca cb hok rs hrk1 hrk2
          cases next with
          | none =>
            obtain ⟨s0, s1, s2, s3⟩ := rs
            simp only [Option.getD_none, Option.isSome_none] at s0 s1 s2 s3 ca cb
            have cb : wr.cell? ⟨Lb, i, none⟩ = some (.string ⟨text.toArray⟩) := cb
            have hrk1 := hrk1 rfl
            have HRK := Lib.hid hrk1
            have ca' := cell_alloc ca
            have cb' := cell_alloc cb
            clear hok hrk1 hrk2 hrk hs ca cb
            generalize D.rank i = rk at *
            go_wp2
            go_roundw
            case rel => exact ⟨i + 1, by omega, by go_num, by rw [HRK.out], HR.out.quiet ((Fr.refl _ _).alloc _), HA.out.fr ((Fr.refl _ _).alloc _), HB.out.fr ((Fr.refl _ _).alloc _)⟩
            case measure => simp [intOf]; omega
          | some t =>
            obtain ⟨s0, s1, s2, s3⟩ := rs
            simp only [Option.getD_some, Option.isSome_some] at s0 s1 s2 s3 ca cb
            have hrk2 := hrk2 rfl
            have HRK := Lib.hid hrk2
            have ht : t.length = 64 := hok.2 t rfl
            have hx : text.length = 64 := hok.1
            have cb : wr.cell? ⟨Lb, i, none⟩ = some (.string ⟨(if worn = true then text else t.take (clamp (pickAt picks (D.rank i))) ++ text.drop (clamp (pickAt picks (D.rank i)))).toArray⟩) := cb
            have ca' := cell_alloc ca
            have cb' := cell_alloc cb
            have hrk64 : (D.rank i : Int) ≤ 64 := by omega
            clear hok hrk1 hrk2 hrk hs ca cb
            generalize D.rank i = rk at *
            have hpk := (hp.out.late HR.out.below (S := []) (by simp))
            by_cases hlk : rk < picks.length
            · have hlk' : (rk : Int) < picks.length := by omega
              obtain ⟨pb, po, c1, e1⟩ := hpk.place (by intro e; rw [e] at hlk; simp at hlk)
              have e3 := (Value.slice.inj e1).1
              clear e1
              subst e3
              have hpc := cell_alloc (hpk.at (List.getElem?_eq_getElem hlk))
              have hpe : pickAt picks rk = picks[rk] := by simp [pickAt, List.getD, hlk]
              rw [hpe] at cb'
              generalize picks[rk] = pk at *
              have hq : max 0 (min pk 64) = (clamp pk : Int) := by unfold clamp; omega
              have hq64 : (clamp pk : Int) ≤ 64 := by unfold clamp; omega
              clear hpk hpe
              generalize clamp pk = q at *
              cases worn with
              | true =>
                simp only [if_true] at cb'
                go_wp2
                go_roundw
                case rel => exact ⟨i + 1, by omega, by go_num, by rw [HRK.out]; go_num, HR.out.quiet ((Fr.refl _ _).alloc _), HA.out.fr ((Fr.refl _ _).alloc _), HB.out.fr ((Fr.refl _ _).alloc _)⟩
                case measure => simp [intOf]; omega
              | false =>
                simp only [Bool.false_eq_true, if_false] at cb'
                go_wp2
                have hqt : (q : Int) ≤ t.length := by omega
                have hqx : (q : Int) ≤ text.length := by omega
                have hov : ¬ 9223372036854775807 < min q 64 + (64 - q) := by omega
                have k1 := cell_blk (heap_alloc_last wr (.cells #[.string ⟨text.toArray⟩, .string ⟨t.toArray⟩, .bool true, .bool false] 52)) 1
                simp only [List.getElem?_toArray, List.getElem?_cons_zero, List.getElem?_cons_succ] at k1
                have kA := ca' (.cells #[.string ⟨text.toArray⟩, .string ⟨t.toArray⟩, .bool true, .bool false] 52)
                have kB := cb' (.cells #[.string ⟨text.toArray⟩, .string ⟨t.toArray⟩, .bool true, .bool false] 52)
                have HRx := Lib.hid (HR.out.quiet ((Fr.refl [] wr).alloc (.cells #[.string ⟨text.toArray⟩, .string ⟨t.toArray⟩, .bool true, .bool false] 52)))
                have HAx := Lib.hid (HA.out.fr ((Fr.refl [] wr).alloc (.cells #[.string ⟨text.toArray⟩, .string ⟨t.toArray⟩, .bool true, .bool false] 52)))
                have HBx := Lib.hid (HB.out.fr ((Fr.refl [] wr).alloc (.cells #[.string ⟨text.toArray⟩, .string ⟨t.toArray⟩, .bool true, .bool false] 52)))
                generalize wr.alloc (.cells #[.string ⟨text.toArray⟩, .string ⟨t.toArray⟩, .bool true, .bool false] 52) = W8 at *
                refine wp_region_still_lit (by kernel_rfl) (by kernel_rfl) ?_
                repeat still_step
                refine wpStill_nil ?_
                rw [World.drew_eq]
                rw [bytes_mix text t q hx]
                generalize t.take q ++ text.drop q = z at *
                go_wp2
                go_roundw
                case rel => exact ⟨i + 1, by omega, by go_num, by rw [HRK.out]; go_num, HRx.out.quiet (Fr.refl _ _).drew, HAx.out.fr (Fr.refl _ _).drew, HBx.out.fr (Fr.refl _ _).drew⟩
                case measure => simp [intOf]; omega
            · have hlk' : (picks.length : Int) ≤ rk := by omega
              have hpe : pickAt picks rk = 64 := by simp [pickAt, List.getD, List.getElem?_eq_none (by omega : picks.length ≤ rk)]
              rw [hpe] at cb'
              have hq : clamp 64 = 64 := by decide
              rw [hq] at cb'
              clear hpk hpe hq
              cases worn with
              | true =>
                simp only [if_true] at cb'
                go_wp2
                go_roundw
                case rel => exact ⟨i + 1, by omega, by go_num, by rw [HRK.out]; go_num, HR.out.quiet ((Fr.refl _ _).alloc _), HA.out.fr ((Fr.refl _ _).alloc _), HB.out.fr ((Fr.refl _ _).alloc _)⟩
                case measure => simp [intOf]; omega
              | false =>
                simp only [Bool.false_eq_true, if_false] at cb'
                go_wp2
                have hqt : (64 : Int) ≤ t.length := by omega
                have hqx : (64 : Int) ≤ text.length := by omega
                have hov : ¬ 9223372036854775807 < min 64 64 + (64 - 64) := by omega
                have k1 := cell_blk (heap_alloc_last wr (.cells #[.string ⟨text.toArray⟩, .string ⟨t.toArray⟩, .bool true, .bool false] 52)) 1
                simp only [List.getElem?_toArray, List.getElem?_cons_zero, List.getElem?_cons_succ] at k1
                have kA := ca' (.cells #[.string ⟨text.toArray⟩, .string ⟨t.toArray⟩, .bool true, .bool false] 52)
                have kB := cb' (.cells #[.string ⟨text.toArray⟩, .string ⟨t.toArray⟩, .bool true, .bool false] 52)
                have HRx := Lib.hid (HR.out.quiet ((Fr.refl [] wr).alloc (.cells #[.string ⟨text.toArray⟩, .string ⟨t.toArray⟩, .bool true, .bool false] 52)))
                have HAx := Lib.hid (HA.out.fr ((Fr.refl [] wr).alloc (.cells #[.string ⟨text.toArray⟩, .string ⟨t.toArray⟩, .bool true, .bool false] 52)))
                have HBx := Lib.hid (HB.out.fr ((Fr.refl [] wr).alloc (.cells #[.string ⟨text.toArray⟩, .string ⟨t.toArray⟩, .bool true, .bool false] 52)))
                generalize wr.alloc (.cells #[.string ⟨text.toArray⟩, .string ⟨t.toArray⟩, .bool true, .bool false] 52) = W8 at *
                refine wp_region_still_lit (by kernel_rfl) (by kernel_rfl) ?_
                repeat still_step
                refine wpStill_nil ?_
                rw [World.drew_eq]
                rw [bytes_end text t hx ht]
                generalize t.take 64 ++ text.drop 64 = z at *
                go_wp2
                go_roundw
                case rel => exact ⟨i + 1, by omega, by go_num, by rw [HRK.out]; go_num, HRx.out.quiet (Fr.refl _ _).drew, HAx.out.fr (Fr.refl _ _).drew, HBx.out.fr (Fr.refl _ _).drew⟩
                case measure => simp [intOf]; omega
        · obtain rfl : i = n := by omega
          clear hlt hi
          go_wp2
          go_ret
          exact ⟨rfl, HR.out.below⟩

theorem tears_any {w : World} (n : Int) (v pv : Value) (l : List OpD) (picks : List Int) (ho : OpsIn w v l) (hp : IntsIn w [] pv picks) :
    Calls Try.prog 5 #[.int .i64 n, v, pv] w fun e W' => e = .returned (.bool true) ∧ Below w.heap.size w W' := by
  obtain ⟨a, cap, rfl⟩ := ho.cells
  obtain ⟨pa, pc, rfl⟩ := hp.cells
  by_cases hn : n < 1 ∨ 64 < n
  · exact tears_none n hn a _ cap _
  · obtain ⟨n, rfl⟩ := Int.eq_ofNat_of_zero_le (show 0 ≤ n by omega)
    by_cases hl : (60 : Int) < l.length
    · exact tears_long n (by omega) (by omega) a _ hl cap _
    · exact tears_core n (by omega) (by omega) a l (by omega) cap ho pa picks pc hp
end Go.Proofs.Ytoefpnmfeaimlaa
