/- What DiskRots computes: it answers true. -/
import Derived.Test.YtoefpnmfeaimlaaKeeps
namespace Go.Proofs.Ytoefpnmfeaimlaa
namespace Dk
theorem turn_turn (t : List UInt8) (b : Nat) : turnBit (turnBit t b) b = t := by
  unfold turnBit
  apply List.ext_getElem?
  intro i
  simp only [List.getElem?_set, List.length_set]
  by_cases e : b / 8 = i
  · subst e
    by_cases h : b / 8 < t.length
    · simp [h, List.getD, UInt8.xor_assoc]
    · simp [h]
  · rw [if_neg e, if_neg e]
theorem set_set (D : DS) (k : Nat) (x y : Sec) : (D.setSec k x).setSec k y = D.setSec k y := by simp [DS.setSec]
theorem rotE_rot (D : DS) (i b : Int) : (D.rot i b).rotE i b = D.rotE i b := by
  unfold DS.rot
  split
  · unfold DS.rotE
    rw [has_set]
  · rfl
theorem rot_no {D : DS} {i b : Int} (h : D.rotE i b ≠ 0) : D.rot i b = D := by unfold DS.rot; exact if_neg h
theorem rot_yes {D : DS} {i b : Int} (h : D.rotE i b = 0) : ∃ k j : Nat, i = k ∧ b = j ∧ k < D.s.length ∧ j < 512 ∧ D.rot i b = D.setSec k { D.sec k with text := turnBit (D.sec k).text j } := by
  have h' := h
  unfold DS.rotE at h
  by_cases hc : (D.has i && decide (0 ≤ b) && decide (b < 512)) = true
  · simp only [Bool.and_eq_true, decide_eq_true_eq] at hc
    obtain ⟨⟨h1, h2⟩, h3⟩ := hc
    rw [has_iff] at h1
    refine ⟨i.toNat, b.toNat, by omega, by omega, by omega, by omega, ?_⟩
    unfold DS.rot
    exact if_pos h'
  · rw [if_neg hc] at h
    cases h
theorem rot_rot (D : DS) (i b : Int) : (D.rot i b).rot i b = D := by
  by_cases h : D.rotE i b = 0
  · obtain ⟨k, j, rfl, rfl, hk, hj, e⟩ := rot_yes h
    have h2 : (D.rot k j).rotE k j = 0 := by rw [rotE_rot]; exact h
    obtain ⟨k', j', ek, ej, _, _, e2⟩ := rot_yes h2
    obtain rfl : k = k' := by omega
    obtain rfl : j = j' := by omega
    rw [e2, e, set_set, sec_set _ _ _ _ hk, if_pos rfl]
    simp only [turn_turn]
    exact set_sec_self D k
  · rw [rot_no h, rot_no h]
theorem rotE_cases (D : DS) (i b : Int) : (D.rotE i b = 0 ∧ 0 ≤ i ∧ i < D.s.length ∧ 0 ≤ b ∧ b < 512) ∨ (D.rotE i b = 1 ∧ (i < 0 ∨ (0 ≤ i ∧ (D.s.length : Int) ≤ i) ∨ (0 ≤ i ∧ i < D.s.length ∧ b < 0) ∨ (0 ≤ i ∧ i < D.s.length ∧ 0 ≤ b ∧ 511 < b))) := by
  unfold DS.rotE
  by_cases hc : (D.has i && decide (0 ≤ b) && decide (b < 512)) = true
  · rw [if_pos hc]
    simp only [Bool.and_eq_true, decide_eq_true_eq] at hc
    obtain ⟨⟨h1, h2⟩, h3⟩ := hc
    rw [has_iff] at h1
    exact .inl ⟨rfl, h1.1, h1.2, h2, h3⟩
  · rw [if_neg hc]
    refine .inr ⟨rfl, ?_⟩
    simp only [Bool.and_eq_true, decide_eq_true_eq, has_iff] at hc
    omega
theorem turn_ne (t : List UInt8) (j : Nat) (h : j / 8 < t.length) : t ≠ turnBit t j := by
  intro e
  have e2 := congrArg (fun l => l[j / 8]?) e
  simp only [turnBit, List.getElem?_set, if_true, h] at e2
  rw [List.getElem?_eq_getElem h] at e2
  have e3 := Option.some.inj e2
  have e4 : t.getD (j / 8) 0 = t[j / 8] := by simp [List.getD, h]
  rw [e4] at e3
  have hr : j % 8 < 8 := Nat.mod_lt _ (by omega)
  have key : ∀ u : Fin 256, ∀ r : Fin 8, UInt8.ofNat u.val ≠ UInt8.ofNat u.val ^^^ (1 <<< UInt8.ofNat r.val) := by decide +kernel
  have := key ⟨t[j / 8].toNat, t[j / 8].toNat_lt⟩ ⟨j % 8, hr⟩
  simp only [UInt8.ofNat_toNat] at this
  exact this e3
theorem turn_at (t : List UInt8) (j k : Nat) (h : k ≠ j / 8) : (turnBit t j)[k]? = t[k]? := by
  simp only [turnBit, List.getElem?_set]
  rw [if_neg (fun e => h e.symm)]
theorem turn_here (t : List UInt8) (j : Nat) (h : j / 8 < t.length) : (turnBit t j)[j / 8]? = some (t[j / 8] ^^^ (1 <<< UInt8.ofNat (j % 8))) := by
  simp only [turnBit, List.getElem?_set, if_true, h]
  simp [List.getD, h]
end Dk
open Go.RowKit Dk

set_option maxRecDepth 100000 in
theorem rots_none {w : World} (n : Int) (hn : n < 1 ∨ 64 < n) (a : Option Addr) (len : Nat) (cap : Nat) (at_ bit : Int) :
    Calls Try.prog 6 #[.int .i64 n, .slice a len cap, .int .i64 at_, .int .i64 bit] w fun e W' => e = .returned (.bool true) ∧ Below w.heap.size w W' := by
  rcases hn with hn | hn
  case' inr => have hn1 : 1 ≤ n := by omega
  all_goals
    go_enter Try.func6, Try.ntmps6
    go_wp2_with fail
    go_at_call 8
    refine sanity_any.mono ?_
    rintro e W0 ⟨rfl, hb⟩
    have B0 := Lib.hid hb
    clear hb
    go_wp2_with fail
    go_at_call 19
    refine (start_none n (by omega)).mono ?_
    rintro e W1 ⟨rfl, rfl⟩
    go_wp2
    go_ret
    exact ⟨rfl, B0.out⟩

set_option maxRecDepth 100000 in
theorem rots_long {w : World} (n : Nat) (hn : (1 : Int) ≤ n) (hn2 : (n : Int) ≤ 64) (a : Option Addr) (len : Nat) (hl : (60 : Int) < len) (cap : Nat) (at_ bit : Int) :
    Calls Try.prog 6 #[.int .i64 n, .slice a len cap, .int .i64 at_, .int .i64 bit] w fun e W' => e = .returned (.bool true) ∧ Below w.heap.size w W' := by
  go_enter Try.func6, Try.ntmps6
  go_wp2_with fail
  go_at_call 8
  refine sanity_any.mono ?_
  rintro e W0 ⟨rfl, hb⟩
  have B0 := Lib.hid hb
  clear hb
  go_wp2_with fail
  go_at_call 19
  refine (start_any B0.out n hn hn2).mono ?_
  rintro e W1 ⟨f, r, rfl, hd, -, -, -⟩
  have HD := Lib.hid hd
  clear hd
  go_wp2
  go_ret
  exact ⟨rfl, HD.out.below⟩


theorem doOp_len (D : DS) (o : OpD) : (D.doOp o).s.length = D.s.length := by
  unfold DS.doOp
  repeat' split
  · exact write_len' _ _ _
  · rfl
  · exact flush_len' _
  · rfl
  · exact mount_len _ _
  · exact rot_len _ _ _
  · exact wear_len _ _
  · rfl
theorem DiskAt.ok' {W : World} {f : DF} {D : DS} (h : DiskAt W f D) : D.ok := by
  obtain ⟨_, _, _, _, _, h⟩ := h
  exact h.ok
theorem StrsAt.inn' {w : World} {base : Nat} {v : Value} {l : List (List UInt8)} (h : StrsAt w base v l) {S : List Nat} (hS : ∀ b ∈ S, b < base) : ∃ L cap, v = .slice (some ⟨L, 0, none⟩) l.length cap ∧ L ∉ S ∧ StrsIn w S (.slice (some ⟨L, 0, none⟩) l.length cap) l := by
  have h' := h
  obtain ⟨b, cap, hv, hb, hc⟩ := h
  subst hv
  exact ⟨b, cap, rfl, fun hm => by have := hS b hm; omega, h'.inn hS⟩
theorem StrsIn.mono {w : World} {S T : List Nat} {v : Value} {l : List (List UInt8)} (h : StrsIn w S v l) (k : ∀ b ∈ T, b ∈ S) : StrsIn w T v l := by
  rcases h with h | ⟨b, o, cap, hv, hb, hc⟩
  · exact .inl h
  · exact .inr ⟨b, o, cap, hv, fun hm => hb (k b hm), hc⟩
theorem StrsIn.at0 {w : World} {S : List Nat} {l : List (List UInt8)} {b n cap : Nat} (h : StrsIn w S (.slice (some ⟨b, 0, none⟩) n cap) l) {j : Nat} {x : List UInt8} (hx : l[j]? = some x) : w.cell? ⟨b, j, none⟩ = some (.string ⟨x.toArray⟩) := by
  have := h.at hx
  rw [Nat.zero_add] at this
  exact this

theorem xor_bits (u : UInt8) (r : Nat) (hr : r < 8) : bits BinOp.xor IntKind.i64 (u.toNat : Int) ((u ^^^ (1 <<< UInt8.ofNat r)).toNat : Int) = (2 : Int) ^ r := by
  have h : ∀ r : Fin 8, ∀ u : Fin 256, bits BinOp.xor IntKind.i64 (u.val : Int) ((UInt8.ofNat u.val ^^^ (1 <<< UInt8.ofNat r.val)).toNat : Int) = (2 : Int) ^ r.val := by decide +kernel
  have := h ⟨r, hr⟩ ⟨u.toNat, u.toNat_lt⟩
  simpa using this
theorem wrap_pow (r : Nat) (h : r < 8) : IntKind.i64.wrap ((2 : Int) ^ r) = (2 : Int) ^ r := by
  have k : ∀ r : Fin 8, IntKind.i64.wrap ((2 : Int) ^ r.val) = (2 : Int) ^ r.val := by decide +kernel
  exact k ⟨r, h⟩
theorem byte_small (u : UInt8) : -9223372036854775808 ≤ (u.toNat : Int) ∧ (u.toNat : Int) ≤ 9223372036854775807 := by
  have := u.toNat_lt
  omega
theorem str_get {x : List UInt8} {q : Nat} {u : UInt8} (h : x[q]? = some u) (p : q < (⟨x.toArray⟩ : ByteArray).size) : (⟨x.toArray⟩ : ByteArray)[q] = u := by
  obtain ⟨h1, h2⟩ := List.getElem?_eq_some_iff.1 h
  exact h2
theorem xor_same (u : UInt8) : bits BinOp.xor IntKind.i64 (u.toNat : Int) (u.toNat : Int) = 0 := by
  have h : ∀ u : Fin 256, bits BinOp.xor IntKind.i64 (u.val : Int) (u.val : Int) = 0 := by decide +kernel
  exact h ⟨u.toNat, u.toNat_lt⟩

attribute [local irreducible] Go.wpStill

set_option maxHeartbeats 2000000 in
set_option maxRecDepth 100000 in
theorem rots_core {w : World} (n : Nat) (hn : (1 : Int) ≤ n) (hn2 : (n : Int) ≤ 64) (a : Option Addr) (l : List OpD) (hl : (l.length : Int) ≤ 60) (cap : Nat) (ho : Hid (OpsIn w (.slice a l.length cap) l)) (at_ bit : Int) :
    Calls Try.prog 6 #[.int .i64 n, .slice a l.length cap, .int .i64 at_, .int .i64 bit] w fun e W' => e = .returned (.bool true) ∧ Below w.heap.size w W' := by
  go_enter Try.func6, Try.ntmps6
  go_wp2_with fail
  go_at_call 8
  refine sanity_any.mono ?_
  rintro e W0 ⟨rfl, hb⟩
  have B0 := Lib.hid hb
  clear hb
  go_wp2_with fail
  go_at_call 19
  refine (start_any B0.out n hn hn2).mono ?_
  rintro e W1 ⟨f, r, rfl, hd, -, -, -⟩
  have HD := Lib.hid hd
  clear hd
  go_wp2
  go_loopw [13] (fun iv wr => ∃ (i : Nat) (D : DS), i ≤ l.length ∧ iv = .int .i64 i ∧ Dsk w wr f D ∧ D.s.length = n) (fun iv _ => l.length - (intOf iv).toNat)
  case atStart => exact ⟨0, DS.new n, Nat.zero_le _, rfl, HD.out, new_len n⟩
  case round =>
    clear HD
    obtain ⟨i, D, hi, rfl, hd, hDn⟩ := hrel
    have HD := Lib.hid hd
    have HDN := Lib.hid hDn
    clear hd hDn
    by_cases hlt : i < l.length
    · have hin : (i : Int) < l.length := by omega
      obtain ⟨b, o, c1, e1⟩ := ho.out.place (by intro e; rw [e] at hlt; simp at hlt)
      have e3 := (Value.slice.inj e1).1
      clear e1
      subst e3
      obtain ⟨xa, xc, ⟨d0, d1, d2, d3, d4⟩, hpk, hxi⟩ := ho.out.at HD.out.below (List.getElem?_eq_getElem hlt)
      generalize l[i] = x at *
      obtain ⟨kind, xi, bit, text, xpicks⟩ := x
      simp only at d0 d1 d2 d3 d4 hpk hxi
      have HPK := Lib.hid hpk
      have HXI := Lib.hid hxi
      clear hpk hxi
      go_wp2_with fail
      go_at_call 20
      refine (do_any HD.out ⟨kind, xi, bit, text, xpicks⟩ (.slice xa xpicks.length xc) (HPK.out.late HD.out.below HD.out.2.2) HXI.out).mono ?_
      rintro e W2 ⟨rfl, hd2, hf2⟩
      have HD2 := Lib.hid hd2
      clear hd2 hf2 d0 d1 d2 d3 d4
      generalize D.doR ⟨kind, xi, bit, text, xpicks⟩ = res
      unfold strV
      go_wp2
      go_roundw
      case rel => exact ⟨i + 1, _, by omega, by go_num, HD2.out, (doOp_len D _).trans HDN.out⟩
      case measure => simp [intOf]; omega
    · obtain rfl : i = l.length := by omega
      clear ho hlt hi
      have hot := HD.out.1.ok'
      have HOK := Lib.hid hot
      clear hot
      go_wp2_with fail
      go_at_call 10
      refine (d_image HD.out rfl).mono ?_
      rintro e W2 ⟨v2, rfl, hv2, hf2⟩
      obtain ⟨La, ca, rfl, hLa, hA⟩ := hv2.inn' (S := f.blks) HD.out.1.lt
      have HA := Lib.hid hA
      have HD2 := Lib.hid (HD.out.quiet hf2)
      clear hv2 hA hf2 HD
      rw [image_len, HDN.out] at HA ⊢
      rcases rotE_cases D at_ bit with ⟨e0, -, -, -, -⟩ | ⟨e1, g⟩
      case inr =>
        have er := rot_no (D := D) (i := at_) (b := bit) (by rw [e1]; decide)
        have ER := Lib.hid er
        rw [HDN.out] at g
        clear er
        rcases g with g | ⟨g, g'⟩ | ⟨g, g', g''⟩ | ⟨g, g', g2, g3⟩
        all_goals
          go_wp2_with fail
          go_at_call 14
          refine (d_rot HD2.out e1 ER.out).mono ?_
          rintro e W3 ⟨rfl, hd3, hf3⟩
          have HA3 := Lib.hid (HA.out.fr hf3)
          have HD3 := Lib.hid hd3
          clear hd3 hf3
          go_wp2_with fail
          go_at_call 10
          refine (d_image HD3.out rfl).mono ?_
          rintro e W4 ⟨v4, rfl, hv4, hf4⟩
          obtain ⟨Lb, cb, rfl, hLb, hB⟩ := hv4.inn' (S := f.blks) HD3.out.1.lt
          have HA4 := Lib.hid (HA3.out.fr (hf4.mono (by simp)))
          have HD4 := Lib.hid (HD3.out.quiet hf4)
          clear hv4 hB hf4
          go_wp2_with fail
          go_at_call 14
          refine (d_rot HD4.out e1 ER.out).mono ?_
          rintro e W5 ⟨rfl, hd5, hf5⟩
          have HA5 := Lib.hid (HA4.out.fr hf5)
          have HD5 := Lib.hid hd5
          clear hd5 hf5
          go_wp2_with fail
          go_at_call 10
          refine (d_image HD5.out rfl).mono ?_
          rintro e W6 ⟨v6, rfl, hv6, hf6⟩
          obtain ⟨Lc, cc, rfl, hLc, hC⟩ := hv6.inn' (S := f.blks) HD5.out.1.lt
          have HA6 := Lib.hid (HA5.out.fr (hf6.mono (by simp)))
          have HD6 := Lib.hid (HD5.out.quiet hf6)
          have T6 := Lib.hid (texts_any HA6.out hC (by rw [image_len, HDN.out]; omega))
          clear hv6 hC hf6
          go_wp2_with fail
          go_at_call 16
          refine T6.out.mono ?_
          rintro e W7 ⟨rfl, hf7⟩
          simp only [decide_true]
          have HD7 := Lib.hid (HD6.out.quiet hf7)
          clear hf7
          go_wp2
          go_ret
          exact ⟨rfl, HD7.out.below⟩
      case inl =>
        obtain ⟨k, j, rfl, rfl, hk, hj, er⟩ := rot_yes e0
        have e1 : (D.rot k j).rotE k j = 0 := by rw [rotE_rot]; exact e0
        have E1 := Lib.hid e1
        have E0 := Lib.hid e0
        have ER := Lib.hid er
        have HK := Lib.hid hk
        have hkn : (k : Int) < n := by have := HDN.out; omega
        have hknN : k < n := by omega
        have hk0 : ¬ (k : Int) < 0 := by omega
        have hj0 : ¬ (j : Int) < 0 := by omega
        have hj9 : ¬ (511 : Int) < j := by omega
        have hjb : (j : Int) < 512 := by omega
        clear e1 e0 er hk
        have hlen1 : (D.rot k j).s.length = n := (rot_len _ _ _).trans HDN.out
        have HL1 := Lib.hid hlen1
        clear hlen1
        go_wp2_with fail
        go_at_call 14
        refine (d_rot HD2.out E0.out rfl).mono ?_
        rintro e W3 ⟨rfl, hd3, hf3⟩
        have HA3 := Lib.hid (HA.out.fr hf3)
        have HD3 := Lib.hid hd3
        clear hd3 hf3 HA HD2
        go_wp2_with fail
        go_at_call 10
        refine (d_image HD3.out rfl).mono ?_
        rintro e W4 ⟨v4, rfl, hv4, hf4⟩
        obtain ⟨Lb, cb, rfl, hLb, hB⟩ := hv4.inn' (S := f.blks) HD3.out.1.lt
        have HA4 := Lib.hid (HA3.out.fr (hf4.mono (by simp)))
        have HD4 := Lib.hid (HD3.out.quiet hf4)
        have HB4 := Lib.hid hB
        clear hv4 hB hf4 HA3 HD3
        rw [image_len, HL1.out] at HB4 ⊢
        go_wp2_with fail
        go_at_call 14
        refine (d_rot HD4.out E1.out (rot_rot D k j)).mono ?_
        rintro e W5 ⟨rfl, hd5, hf5⟩
        have HA5 := Lib.hid (HA4.out.fr hf5)
        have HB5 := Lib.hid (HB4.out.fr hf5)
        have HD5 := Lib.hid hd5
        clear hd5 hf5 HA4 HB4 HD4
        go_wp2_with fail
        go_at_call 10
        refine (d_image HD5.out rfl).mono ?_
        rintro e W6 ⟨v6, rfl, hv6, hf6⟩
        obtain ⟨Lc, cc, rfl, hLc, hC⟩ := hv6.inn' (S := f.blks) HD5.out.1.lt
        have HA6 := Lib.hid (HA5.out.fr (hf6.mono (by simp)))
        have HB6 := Lib.hid (HB5.out.fr (hf6.mono (by simp)))
        have HD6 := Lib.hid (HD5.out.quiet hf6)
        have T6 := Lib.hid (texts_any HA6.out hC (by rw [image_len, HDN.out]; omega))
        clear hv6 hC hf6 HA5 HB5 HD5
        go_wp2_with fail
        go_at_call 16
        refine T6.out.mono ?_
        rintro e W7 ⟨rfl, hf7⟩
        simp only [decide_true]
        have HA7 := Lib.hid (HA6.out.fr (hf7.mono (by simp)))
        have HB7 := Lib.hid (HB6.out.fr (hf7.mono (by simp)))
        have HD7 := Lib.hid (HD6.out.quiet hf7)
        clear hf7 HA6 HB6 HD6 T6
        go_wp2
        generalize decide (n ≤ k) = z1
        go_loopw [19] (fun iv wr => ∃ i : Nat, i ≤ n ∧ iv = .int .i64 i ∧ Dsk w wr f D ∧ StrsIn wr f.blks (.slice (some ⟨La, 0, none⟩) n ca) D.image ∧ StrsIn wr f.blks (.slice (some ⟨Lb, 0, none⟩) n cb) (D.rot k j).image) (fun iv _ => n - (intOf iv).toNat)
        case atStart => exact ⟨0, Nat.zero_le _, rfl, HD7.out, HA7.out, HB7.out⟩
        case round =>
          clear HA7 HB7 HD7
          obtain ⟨i, hi, rfl, hd, hA, hB⟩ := hrel
          have HD := Lib.hid hd
          have HA := Lib.hid hA
          have HB := Lib.hid hB
          clear hd hA hB
          by_cases hlt : i < n
          · have hin : (i : Int) < n := by omega
            have hiD : i < D.s.length := by rw [HDN.out]; exact hlt
            have ca := HA.out.at0 (image_get D i hiD)
            have cb := HB.out.at0 (image_get (D.rot k j) i (by rw [HL1.out]; exact hlt))
            have hok := sec_of_ok HOK.out hiD
            rw [ER.out, sec_set _ _ _ _ HK.out] at cb
            have hxl := hok.1
            by_cases hik : i = k
            · subst hik
              rw [if_pos rfl] at cb
              have hne := turn_ne (D.sec i).text j (by rw [hxl]; omega)
              have hyl : (turnBit (D.sec i).text j).length = 64 := by rw [turnBit_length]; exact hxl
              generalize turnBit (D.sec i).text j = y at *
              generalize (D.sec i).text = x at *
              clear hok hxl hiD
              have hxb : (x == y) = false := by simpa using hne
              have hyl' : (y.length : Int) = 64 := by omega
              clear hne hyl
              go_wp2
              refine wp_region_still_lit (by kernel_rfl) (by kernel_rfl) ?_
              repeat still_step
              refine wpStill_nil ?_
              rw [World.drew_eq]
              go_wp2
              go_roundw
              case rel => exact ⟨i + 1, by omega, by go_num, HD.out.quiet (Fr.refl _ _).drew, HA.out.fr (Fr.refl _ _).drew, HB.out.fr (Fr.refl _ _).drew⟩
              case measure => simp [intOf]; omega
            · rw [if_neg hik] at cb
              have hikb : ((i : Int) == (k : Int)) = false := by
                rw [beq_eq_false_iff_ne]
                omega
              generalize (D.sec i).text = x at *
              have hxl' : (x.length : Int) = 64 := by omega
              clear hok hxl hiD
              go_wp2
              refine wp_region_still_lit (by kernel_rfl) (by kernel_rfl) ?_
              repeat still_step
              refine wpStill_nil ?_
              rw [World.drew_eq]
              go_wp2
              go_roundw
              case rel => exact ⟨i + 1, by omega, by go_num, HD.out.quiet (Fr.refl _ _).drew, HA.out.fr (Fr.refl _ _).drew, HB.out.fr (Fr.refl _ _).drew⟩
              case measure => simp [intOf]; omega
          · obtain rfl : i = n := by omega
            clear hlt hi
            have hkD := HK.out
            have ca := image_get D k hkD
            have cb := image_get (D.rot k j) k (by rw [HL1.out]; omega)
            rw [ER.out, sec_set _ _ _ _ hkD, if_pos rfl] at cb
            rw [ER.out] at HB
            have hok := (sec_of_ok HOK.out hkD).1
            have CA := Lib.hid ca
            have CB := Lib.hid cb
            clear ca cb hkD
            go_wp2
            go_loopw [20] (fun iv wr => ∃ q : Nat, q ≤ 64 ∧ iv = .int .i64 q ∧ Dsk w wr f D ∧ StrsIn wr f.blks (.slice (some ⟨La, 0, none⟩) i ca) D.image ∧ StrsIn wr f.blks (.slice (some ⟨Lb, 0, none⟩) i cb) (D.setSec k { D.sec k with text := turnBit (D.sec k).text j }).image) (fun iv _ => 64 - (intOf iv).toNat)
            case atStart => exact ⟨0, Nat.zero_le _, rfl, HD.out, HA.out, HB.out⟩
            case round =>
              clear HA HB HD
              obtain ⟨q, hq, rfl, hd, hA, hB⟩ := hrel
              have ca := hA.at0 CA.out
              have cb := hB.at0 CB.out
              have HD := Lib.hid hd
              have HA := Lib.hid hA
              have HB := Lib.hid hB
              clear hd hA hB
              by_cases hlt : q < 64
              · have hq6 : (q : Int) < 64 := by omega
                have hqa : q < (D.sec k).text.length := by rw [hok]; exact hlt
                have hqb : q < (turnBit (D.sec k).text j).length := by rw [turnBit_length, hok]; exact hlt
                by_cases hqj : q = j / 8
                · obtain ⟨u, hu⟩ : ∃ u, (D.sec k).text[q]? = some u := ⟨_, List.getElem?_eq_getElem hqa⟩
                  have hv : (turnBit (D.sec k).text j)[q]? = some (u ^^^ (1 <<< UInt8.ofNat (j % 8))) := by
                    subst hqj
                    rw [turn_here _ _ hqa]
                    rw [List.getElem?_eq_getElem hqa] at hu
                    rw [Option.some.inj hu]
                  have hqw : IntKind.i64.wrap ((j : Int) / 8) = (q : Int) := by rw [IntWalk.i64_in _ (by omega)]; omega
                  have HQJ := Lib.hid hqj
                  have HU := Lib.hid hu
                  have HV := Lib.hid hv
                  generalize turnBit (D.sec k).text j = y at *
                  generalize (D.sec k).text = x at *
                  have hqa' : (q : Int) < x.length := by omega
                  have hqb' : (q : Int) < y.length := by omega
                  clear hqj hu hv
                  go_wp2
                  refine wp_region_still_lit (by kernel_rfl) (by kernel_rfl) ?_
                  repeat still_step
                  refine wpStill_nil ?_
                  rw [World.drew_eq]
                  generalize hbx : bits BinOp.xor IntKind.i64 (IntKind.i64.wrap _) (IntKind.i64.wrap _) = bx
                  have hr : ((j : Int).tmod 8) = ((j % 8 : Nat) : Int) := by rw [Int.tmod_eq_emod_of_nonneg (by omega)]; omega
                  have hr2 : ((j % 8 : Nat) : Int) < 8 := by omega
                  have hbx2 : bx = IntKind.i64.wrap (2 ^ (j % 8)) := by
                    rw [← hbx, str_get HU.out _, str_get HV.out _, IntWalk.i64_in _ (byte_small _), IntWalk.i64_in _ (byte_small _), xor_bits u (j % 8) (Nat.mod_lt _ (by omega))]
                    exact (wrap_pow (j % 8) (Nat.mod_lt _ (by omega))).symm
                  clear hbx
                  subst hbx2
                  generalize j % 8 = r8 at hr hr2 ⊢
                  go_wp2
                  all_goals
                    first
                      | refine ⟨⟨q + 1, by omega, by go_num, HD.out.quiet (Fr.refl _ _).drew, HA.out.fr (Fr.refl _ _).drew, HB.out.fr (Fr.refl _ _).drew⟩, ?_⟩
                      | refine ⟨⟨j8 + 1, by omega, by go_num, HD.out.quiet (Fr.refl _ _).drew, HA.out.fr (Fr.refl _ _).drew, HB.out.fr (Fr.refl _ _).drew⟩, ?_⟩
                    simp [intOf]
                    omega
                · have hu : (turnBit (D.sec k).text j)[q]? = (D.sec k).text[q]? := turn_at _ _ _ hqj
                  obtain ⟨u, hu'⟩ : ∃ u, (D.sec k).text[q]? = some u := ⟨_, List.getElem?_eq_getElem hqa⟩
                  rw [hu'] at hu
                  have hqw : IntKind.i64.wrap ((j : Int) / 8) = ((j / 8 : Nat) : Int) := by rw [IntWalk.i64_in _ (by omega)]; omega
                  have hqe : ((q : Int) == ((j / 8 : Nat) : Int)) = false := by rw [beq_eq_false_iff_ne]; omega
                  have HU := Lib.hid hu'
                  have HV := Lib.hid hu
                  generalize turnBit (D.sec k).text j = y at *
                  generalize (D.sec k).text = x at *
                  generalize j / 8 = j8 at *
                  have hqa' : (q : Int) < x.length := by omega
                  have hqb' : (q : Int) < y.length := by omega
                  clear hqj hu hu'
                  go_wp2
                  refine wp_region_still_lit (by kernel_rfl) (by kernel_rfl) ?_
                  repeat still_step
                  refine wpStill_nil ?_
                  rw [World.drew_eq]
                  generalize hbx : bits BinOp.xor IntKind.i64 (IntKind.i64.wrap _) (IntKind.i64.wrap _) = bx
                  have hbx2 : bx = 0 := by
                    rw [← hbx, str_get HU.out _, str_get HV.out _, IntWalk.i64_in _ (byte_small _), xor_same u]
                  clear hbx
                  subst hbx2
                  go_wp2
                  all_goals
                    first
                      | refine ⟨⟨q + 1, by omega, by go_num, HD.out.quiet (Fr.refl _ _).drew, HA.out.fr (Fr.refl _ _).drew, HB.out.fr (Fr.refl _ _).drew⟩, ?_⟩
                      | refine ⟨⟨j8 + 1, by omega, by go_num, HD.out.quiet (Fr.refl _ _).drew, HA.out.fr (Fr.refl _ _).drew, HB.out.fr (Fr.refl _ _).drew⟩, ?_⟩
                    simp [intOf]
                    omega
              · obtain rfl : q = 64 := by omega
                go_wp2
                go_ret
                exact ⟨rfl, HD.out.below⟩

theorem rots_any {w : World} (n at_ bit : Int) (v : Value) (l : List OpD) (ho : OpsIn w v l) :
    Calls Try.prog 6 #[.int .i64 n, v, .int .i64 at_, .int .i64 bit] w fun e W' => e = .returned (.bool true) ∧ Below w.heap.size w W' := by
  obtain ⟨a, cap, rfl⟩ := ho.cells
  by_cases hn : n < 1 ∨ 64 < n
  · exact rots_none n hn a _ cap _ _
  · obtain ⟨n, rfl⟩ := Int.eq_ofNat_of_zero_le (show 0 ≤ n by omega)
    by_cases hl : (60 : Int) < l.length
    · exact rots_long n (by omega) (by omega) a _ hl cap _ _
    · exact rots_core n (by omega) (by omega) a l (by omega) cap ho at_ bit
end Go.Proofs.Ytoefpnmfeaimlaa
