/- What DiskClones computes: it answers true. -/
import Derived.Test.YtoefpnmfeaimlaaRots
import Derived.Test.YtoefpnmfeaimlaaRClone
namespace Go.Proofs.Ytoefpnmfeaimlaa
open Go.RowKit Dk

theorem d_clone' {w W : World} {f : DF} {D : DS} (h : Dsk w W f D) :
    Calls Try.prog 26 #[.pointer (some ⟨f.p, 0, none⟩)] W fun e W' => ∃ f' : DF, e = .returned (.pointer (some ⟨f'.p, 0, none⟩)) ∧ Dsk w W' f' D ∧ Dsk w W' f D ∧ (∀ b ∈ f'.blks, W.heap.size ≤ b) ∧ Fr [] W W' :=
  (clone_any h.1).mono fun _ _ ⟨f', h1, h2, h3, h4⟩ => ⟨f', h1, ⟨h2, h.2.1.trans (h3.mono h.2.1.size), fun b hb => Nat.le_trans h.2.1.size (h4 b hb)⟩, h.grow h3, h4, Fr.of_below h3⟩
theorem r_clone {w W : World} {r : RF} {D : DS} (h : RDk w W r D) :
    Calls Try.prog 27 #[.pointer (some ⟨r.p, 0, none⟩)] W fun e W' => ∃ r' : RF, e = .returned (.pointer (some ⟨r'.p, 0, none⟩)) ∧ RDk w W' r' D ∧ RDk w W' r D ∧ (∀ b ∈ r'.blks, W.heap.size ≤ b) ∧ Fr [] W W' :=
  (rclone_any h.1).mono fun _ _ ⟨r', h1, h2, h3, h4⟩ => ⟨r', h1, ⟨h2, h.2.1.trans (h3.mono h.2.1.size), fun b hb => Nat.le_trans h.2.1.size (h4 b hb)⟩, h.grow h3, h4, Fr.of_below h3⟩


set_option maxRecDepth 100000 in
theorem clones_none {w : World} (n : Int) (hn : n < 1 ∨ 64 < n) (a1 a2 a3 : Option Addr) (l1 l2 l3 c1 c2 c3 : Nat) :
    Calls Try.prog 7 #[.int .i64 n, .slice a1 l1 c1, .slice a2 l2 c2, .slice a3 l3 c3] w fun e W' => e = .returned (.bool true) ∧ Below w.heap.size w W' := by
  rcases hn with hn | hn
  case' inr => have hn1 : 1 ≤ n := by omega
  all_goals
    go_enter Try.func7, Try.ntmps7
    go_wp2_with fail
    go_at_call 8
    refine sanity_any.mono ?_
    rintro e W0 ⟨rfl, hb⟩
    have B0 := Lib.hid hb
    clear hb
    go_wp2_with fail
    go_at_call 19
    refine (start_none n (by omega)).mono ?_
    rintro e W1 ⟨rfl, rfl⟩
    go_wp2
    go_ret
    exact ⟨rfl, B0.out⟩

set_option maxRecDepth 100000 in
theorem clones_long {w : World} (n : Nat) (hn : (1 : Int) ≤ n) (hn2 : (n : Int) ≤ 64) (a1 a2 a3 : Option Addr) (l1 l2 l3 c1 c2 c3 : Nat) (hl : ((60 : Int) < l1) ∨ ((l1 : Int) ≤ 60 ∧ (60 : Int) < l2) ∨ ((l1 : Int) ≤ 60 ∧ (l2 : Int) ≤ 60 ∧ (60 : Int) < l3)) :
    Calls Try.prog 7 #[.int .i64 n, .slice a1 l1 c1, .slice a2 l2 c2, .slice a3 l3 c3] w fun e W' => e = .returned (.bool true) ∧ Below w.heap.size w W' := by
  rcases hl with hl | ⟨hl, hl2⟩ | ⟨hl, hl2, hl3⟩
  all_goals
    go_enter Try.func7, Try.ntmps7
    go_wp2_with fail
    go_at_call 8
    refine sanity_any.mono ?_
    rintro e W0 ⟨rfl, hb⟩
    have B0 := Lib.hid hb
    clear hb
    go_wp2_with fail
    go_at_call 19
    refine (start_any B0.out n hn hn2).mono ?_
    rintro e W1 ⟨f, r, rfl, hd, -, -, -⟩
    have HD := Lib.hid hd
    clear hd
    go_wp2
    go_ret
    exact ⟨rfl, HD.out.below⟩


set_option maxHeartbeats 4000000 in
set_option maxRecDepth 100000 in
theorem clones_core {w : World} (n : Nat) (hn : (1 : Int) ≤ n) (hn2 : (n : Int) ≤ 64) (a1 a2 a3 : Option Addr) (l1 l2 l3 : List OpD) (c1 c2 c3 : Nat) (hl1 : (l1.length : Int) ≤ 60) (hl2 : (l2.length : Int) ≤ 60) (hl3 : (l3.length : Int) ≤ 60)
    (ho1 : Hid (OpsIn w (.slice a1 l1.length c1) l1)) (ho2 : Hid (OpsIn w (.slice a2 l2.length c2) l2)) (ho3 : Hid (OpsIn w (.slice a3 l3.length c3) l3)) :
    Calls Try.prog 7 #[.int .i64 n, .slice a1 l1.length c1, .slice a2 l2.length c2, .slice a3 l3.length c3] w fun e W' => e = .returned (.bool true) ∧ Below w.heap.size w W' := by
  go_enter Try.func7, Try.ntmps7
  go_wp2_with fail
  go_at_call 8
  refine sanity_any.mono ?_
  rintro e W0 ⟨rfl, hb⟩
  have B0 := Lib.hid hb
  clear hb
  go_wp2_with fail
  go_at_call 19
  refine (start_any B0.out n hn hn2).mono ?_
  rintro e W1 ⟨f, r, rfl, hd, hr, hdis, -⟩
  have HD := Lib.hid hd
  have HR := Lib.hid hr
  have FR : Hid (∀ b ∈ f.blks, b ∉ r.blks) := fun b hb hb' => hdis b hb' hb
  have RF := Lib.hid hdis
  have HF2 := Lib.hid hd.2.2
  have HR2 := Lib.hid hr.2.2
  clear hd hr hdis
  go_wp2

  have HN : Hid ((DS.new n).s.length = n) := new_len n
  go_loopw [13] (fun iv wr => ∃ (i : Nat) (D : DS), i ≤ l1.length ∧ iv = .int .i64 i ∧ Dsk w wr f D ∧ RDk w wr r D ∧ D.s.length = n) (fun iv _ => l1.length - (intOf iv).toNat)
  case atStart => exact ⟨0, _, Nat.zero_le _, rfl, HD.out, HR.out, HN.out⟩
  case round =>
    clear HD HR HN
    obtain ⟨i, D, hi, rfl, hd, hr, hDn⟩ := hrel
    have HD := Lib.hid hd
    have HR := Lib.hid hr
    have HN := Lib.hid hDn
    clear hd hr hDn
    by_cases hlt : i < l1.length
    · have hin : (i : Int) < l1.length := by omega
      obtain ⟨b, o, cc, e1⟩ := ho1.out.place (by intro e; rw [e] at hlt; simp at hlt)
      have e3 := (Value.slice.inj e1).1
      clear e1
      subst e3
      have hgx := List.getElem?_eq_getElem hlt
      generalize l1[i] = x at hgx
      have HGX := Lib.hid hgx
      obtain ⟨xa, xc, ⟨d0, d1, d2, d3, d4⟩, hpk, hxi⟩ := ho1.out.at HD.out.below hgx
      obtain ⟨kind, xi, bit, text, xpicks⟩ := x
      simp only at d0 d1 d2 d3 d4 hpk hxi
      have HPK := Lib.hid hpk
      have HXI := Lib.hid hxi
      clear hpk hxi hgx
      go_wp2_with fail
      go_at_call 20
      refine (do_any HD.out ⟨kind, xi, bit, text, xpicks⟩ (.slice xa xpicks.length xc) (HPK.out.late HD.out.below HD.out.2.2) HXI.out).mono ?_
      rintro e W2 ⟨rfl, hd2, hf2⟩
      have HD2 := Lib.hid hd2
      have HRR := Lib.hid (HR.out.other hf2 HD.out.2.2 RF.out)
      clear hd2 hf2 d0 d1 d2 d3 d4 HD HR
      obtain ⟨xa', xc', ⟨d0, d1, d2, d3, d4⟩, hpk, hxi⟩ := ho1.out.at HD2.out.below HGX.out
      simp only at d0 d1 d2 d3 d4 hpk hxi
      have HPK' := Lib.hid hpk
      clear hpk hxi
      generalize D.doR ⟨kind, xi, bit, text, xpicks⟩ = res
      unfold strV
      go_wp2_with fail
      go_at_call 24
      refine (rdo_any HRR.out ⟨kind, xi, bit, text, xpicks⟩ (.slice xa' xpicks.length xc') (HPK'.out.late HRR.out.below HRR.out.2.2) HXI.out).mono ?_
      rintro e W3 ⟨rfl, hr3, hf3⟩
      have HD3 := Lib.hid (HD2.out.other hf3 HRR.out.2.2 FR.out)
      have HR3 := Lib.hid hr3
      clear hf3 hr3 d0 d1 d2 d3 d4 HD2 HRR
      generalize D.doR ⟨kind, xi, bit, text, xpicks⟩ = res
      unfold strV
      go_wp2
      go_roundw
      case rel => exact ⟨i + 1, _, by omega, by go_num, HD3.out, HR3.out, (doOp_len D _).trans HN.out⟩
      case measure => simp [intOf]; omega
    · obtain rfl : i = l1.length := by omega
      clear ho1 hlt hi
      have HFE := Lib.hid (show D.s.length ≤ 4096 by rw [HN.out]; omega)
      go_wp2_with fail
      go_at_call 26
      refine (d_clone' HD.out).mono ?_
      rintro e W4 ⟨c, rfl, hc, hd4, hcf, hf4⟩
      have Sc := Lib.hid hc
      have HD4 := Lib.hid hd4
      have HR4 := Lib.hid (HR.out.quiet hf4)
      have HCN := Lib.hid hcf
      have CF : Hid (∀ b ∈ c.blks, b ∉ f.blks) := fun b hb hb' => by have := hcf b hb; have := HD.out.1.lt b hb'; omega
      have FC : Hid (∀ b ∈ f.blks, b ∉ c.blks) := fun b hb hb' => CF.out b hb' hb
      have CR : Hid (∀ b ∈ c.blks, b ∉ r.blks) := fun b hb hb' => by have := HCN.out b hb; have := HR.out.1.lt b hb'; omega
      have RC : Hid (∀ b ∈ r.blks, b ∉ c.blks) := fun b hb hb' => CR.out b hb' hb
      clear hc hd4 hcf hf4 HD HR
      go_wp2_with fail
      go_at_call 27
      refine (r_clone HR4.out).mono ?_
      rintro e W5 ⟨s, rfl, hs, hr5, hsb, hf5⟩
      have Ss := Lib.hid hs
      have HR5 := Lib.hid hr5
      have HD5 := Lib.hid (HD4.out.quiet hf5)
      have Tc := Lib.hid (Sc.out.quiet hf5)
      have SF : Hid (∀ b ∈ s.blks, b ∉ f.blks) := fun b hb hb' => by have := hsb b hb; have := HD4.out.1.lt b hb'; omega
      have SR : Hid (∀ b ∈ s.blks, b ∉ r.blks) := fun b hb hb' => by have := hsb b hb; have := HR4.out.1.lt b hb'; omega
      have SC : Hid (∀ b ∈ s.blks, b ∉ c.blks) := fun b hb hb' => by have := hsb b hb; have := Sc.out.1.lt b hb'; omega
      have FS : Hid (∀ b ∈ f.blks, b ∉ s.blks) := fun b hb hb' => SF.out b hb' hb
      have RS : Hid (∀ b ∈ r.blks, b ∉ s.blks) := fun b hb hb' => SR.out b hb' hb
      have CS : Hid (∀ b ∈ c.blks, b ∉ s.blks) := fun b hb hb' => SC.out b hb' hb
      clear hs hr5 hsb hf5 Sc HD4 HR4
      go_wp2_with fail
      go_at_call 28
      refine (same_any Tc.out Ss.out HFE.out).mono ?_
      rintro e W6 ⟨rfl, hf6⟩
      have HD := Lib.hid (HD5.out.quiet hf6)
      have HR := Lib.hid (HR5.out.quiet hf6)
      have Sc := Lib.hid (Tc.out.quiet hf6)
      have Us := Lib.hid (Ss.out.quiet hf6)
      clear hf6 HD5 HR5 Tc Ss
      have Ss := Us
      clear Us
      have HE := HN
      have EQ : Hid (∃ E : DS, E = D) := ⟨D, rfl⟩
      obtain ⟨E, hE⟩ := EQ.out
      rw [← hE] at Sc Ss HE
      clear hE EQ
      go_wp2
      go_loopw [16] (fun iv wr => ∃ (i : Nat) (D : DS), i ≤ l2.length ∧ iv = .int .i64 i ∧ Dsk w wr f D ∧ RDk w wr r D ∧ D.s.length = n ∧ Dsk w wr c E ∧ RDk w wr s E) (fun iv _ => l2.length - (intOf iv).toNat)
      case atStart => exact ⟨0, _, Nat.zero_le _, rfl, HD.out, HR.out, HN.out, Sc.out, Ss.out⟩
      case round =>
        clear HD HR HN Sc Ss
        obtain ⟨i, D, hi, rfl, hd, hr, hDn, sc, ss⟩ := hrel
        have HD := Lib.hid hd
        have HR := Lib.hid hr
        have HN := Lib.hid hDn
        have Sc := Lib.hid sc
        have Ss := Lib.hid ss
        clear hd hr hDn sc ss
        by_cases hlt : i < l2.length
        · have hin : (i : Int) < l2.length := by omega
          obtain ⟨b, o, cc, e1⟩ := ho2.out.place (by intro e; rw [e] at hlt; simp at hlt)
          have e3 := (Value.slice.inj e1).1
          clear e1
          subst e3
          have hgx := List.getElem?_eq_getElem hlt
          generalize l2[i] = x at hgx
          have HGX := Lib.hid hgx
          obtain ⟨xa, xc, ⟨d0, d1, d2, d3, d4⟩, hpk, hxi⟩ := ho2.out.at HD.out.below hgx
          obtain ⟨kind, xi, bit, text, xpicks⟩ := x
          simp only at d0 d1 d2 d3 d4 hpk hxi
          have HPK := Lib.hid hpk
          have HXI := Lib.hid hxi
          clear hpk hxi hgx
          go_wp2_with fail
          go_at_call 20
          refine (do_any HD.out ⟨kind, xi, bit, text, xpicks⟩ (.slice xa xpicks.length xc) (HPK.out.late HD.out.below HD.out.2.2) HXI.out).mono ?_
          rintro e W2 ⟨rfl, hd2, hf2⟩
          have HD2 := Lib.hid hd2
          have HRR := Lib.hid (HR.out.other hf2 HD.out.2.2 RF.out)
          have Tc := Lib.hid (Sc.out.other hf2 HD.out.2.2 CF.out)
          have Ts := Lib.hid (Ss.out.other hf2 HD.out.2.2 SF.out)
          clear hd2 hf2 d0 d1 d2 d3 d4 HD HR Sc Ss
          obtain ⟨xa', xc', ⟨d0, d1, d2, d3, d4⟩, hpk, hxi⟩ := ho2.out.at HD2.out.below HGX.out
          simp only at d0 d1 d2 d3 d4 hpk hxi
          have HPK' := Lib.hid hpk
          clear hpk hxi
          generalize D.doR ⟨kind, xi, bit, text, xpicks⟩ = res
          unfold strV
          go_wp2_with fail
          go_at_call 24
          refine (rdo_any HRR.out ⟨kind, xi, bit, text, xpicks⟩ (.slice xa' xpicks.length xc') (HPK'.out.late HRR.out.below HRR.out.2.2) HXI.out).mono ?_
          rintro e W3 ⟨rfl, hr3, hf3⟩
          have HD3 := Lib.hid (HD2.out.other hf3 HRR.out.2.2 FR.out)
          have Sc := Lib.hid (Tc.out.other hf3 HRR.out.2.2 CR.out)
          have Ss := Lib.hid (Ts.out.other hf3 HRR.out.2.2 SR.out)
          have HR3 := Lib.hid hr3
          clear hf3 hr3 d0 d1 d2 d3 d4 HD2 HRR Tc Ts
          generalize D.doR ⟨kind, xi, bit, text, xpicks⟩ = res
          unfold strV
          go_wp2
          go_roundw
          case rel => exact ⟨i + 1, _, by omega, by go_num, HD3.out, HR3.out, (doOp_len D _).trans HN.out, Sc.out, Ss.out⟩
          case measure => simp [intOf]; omega
        · obtain rfl : i = l2.length := by omega
          clear ho2 hlt hi
          have SD : Hid (D.s.length ≤ 4096) := by show D.s.length ≤ 4096; rw [HN.out]; omega
          have Sf := HD
          have Sr := HR
          have HD := Sc
          have HR := Ss
          clear Sc Ss HN
          have HN := HE
          clear HE
          go_wp2
          go_loopw [17] (fun iv wr => ∃ (i : Nat) (G : DS), i ≤ l3.length ∧ iv = .int .i64 i ∧ Dsk w wr c G ∧ RDk w wr s G ∧ G.s.length = n ∧ Dsk w wr f D ∧ RDk w wr r D) (fun iv _ => l3.length - (intOf iv).toNat)
          case atStart => exact ⟨0, _, Nat.zero_le _, rfl, HD.out, HR.out, HN.out, Sf.out, Sr.out⟩
          case round =>
            clear HD HR HN Sf Sr
            obtain ⟨i, G, hi, rfl, hd, hr, hDn, sf, sr⟩ := hrel
            have HD := Lib.hid hd
            have HR := Lib.hid hr
            have HN := Lib.hid hDn
            have Sf := Lib.hid sf
            have Sr := Lib.hid sr
            clear hd hr hDn sf sr
            by_cases hlt : i < l3.length
            · have hin : (i : Int) < l3.length := by omega
              obtain ⟨b, o, cc, e1⟩ := ho3.out.place (by intro e; rw [e] at hlt; simp at hlt)
              have e3 := (Value.slice.inj e1).1
              clear e1
              subst e3
              have hgx := List.getElem?_eq_getElem hlt
              generalize l3[i] = x at hgx
              have HGX := Lib.hid hgx
              obtain ⟨xa, xc, ⟨d0, d1, d2, d3, d4⟩, hpk, hxi⟩ := ho3.out.at HD.out.below hgx
              obtain ⟨kind, xi, bit, text, xpicks⟩ := x
              simp only at d0 d1 d2 d3 d4 hpk hxi
              have HPK := Lib.hid hpk
              have HXI := Lib.hid hxi
              clear hpk hxi hgx
              go_wp2_with fail
              go_at_call 20
              refine (do_any HD.out ⟨kind, xi, bit, text, xpicks⟩ (.slice xa xpicks.length xc) (HPK.out.late HD.out.below HD.out.2.2) HXI.out).mono ?_
              rintro e W2 ⟨rfl, hd2, hf2⟩
              have HD2 := Lib.hid hd2
              have HRR := Lib.hid (HR.out.other hf2 HD.out.2.2 SC.out)
              have Tf := Lib.hid (Sf.out.other hf2 HD.out.2.2 FC.out)
              have Tr := Lib.hid (Sr.out.other hf2 HD.out.2.2 RC.out)
              clear hd2 hf2 d0 d1 d2 d3 d4 HD HR Sf Sr
              obtain ⟨xa', xc', ⟨d0, d1, d2, d3, d4⟩, hpk, hxi⟩ := ho3.out.at HD2.out.below HGX.out
              simp only at d0 d1 d2 d3 d4 hpk hxi
              have HPK' := Lib.hid hpk
              clear hpk hxi
              generalize G.doR ⟨kind, xi, bit, text, xpicks⟩ = res
              unfold strV
              go_wp2_with fail
              go_at_call 24
              refine (rdo_any HRR.out ⟨kind, xi, bit, text, xpicks⟩ (.slice xa' xpicks.length xc') (HPK'.out.late HRR.out.below HRR.out.2.2) HXI.out).mono ?_
              rintro e W3 ⟨rfl, hr3, hf3⟩
              have HD3 := Lib.hid (HD2.out.other hf3 HRR.out.2.2 CS.out)
              have Sf := Lib.hid (Tf.out.other hf3 HRR.out.2.2 FS.out)
              have Sr := Lib.hid (Tr.out.other hf3 HRR.out.2.2 RS.out)
              have HR3 := Lib.hid hr3
              clear hf3 hr3 d0 d1 d2 d3 d4 HD2 HRR Tf Tr
              generalize G.doR ⟨kind, xi, bit, text, xpicks⟩ = res
              unfold strV
              go_wp2
              go_roundw
              case rel => exact ⟨i + 1, _, by omega, by go_num, HD3.out, HR3.out, (doOp_len G _).trans HN.out, Sf.out, Sr.out⟩
              case measure => simp [intOf]; omega
            · obtain rfl : i = l3.length := by omega
              clear ho3 hlt hi
              have HFG := Lib.hid (show G.s.length ≤ 4096 by rw [HN.out]; omega)
              go_wp2_with fail
              go_at_call 28
              refine (same_any Sf.out Sr.out SD.out).mono ?_
              rintro e W7 ⟨rfl, hf7⟩
              have HD7 := Lib.hid (HD.out.quiet hf7)
              have HR7 := Lib.hid (HR.out.quiet hf7)
              clear hf7 HD HR
              go_wp2_with fail
              go_at_call 28
              refine (same_any HD7.out HR7.out HFG.out).mono ?_
              rintro e W8 ⟨rfl, hf8⟩
              have HD8 := Lib.hid (HD7.out.quiet hf8)
              go_wp2
              go_ret
              exact ⟨rfl, HD8.out.below⟩

theorem clones_any {w : World} (n : Int) (v1 v2 v3 : Value) (l1 l2 l3 : List OpD) (ho1 : OpsIn w v1 l1) (ho2 : OpsIn w v2 l2) (ho3 : OpsIn w v3 l3) :
    Calls Try.prog 7 #[.int .i64 n, v1, v2, v3] w fun e W' => e = .returned (.bool true) ∧ Below w.heap.size w W' := by
  obtain ⟨a1, c1, rfl⟩ := ho1.cells
  obtain ⟨a2, c2, rfl⟩ := ho2.cells
  obtain ⟨a3, c3, rfl⟩ := ho3.cells
  by_cases hn : n < 1 ∨ 64 < n
  · exact clones_none n hn _ _ _ _ _ _ _ _ _
  · obtain ⟨n, rfl⟩ := Int.eq_ofNat_of_zero_le (show 0 ≤ n by omega)
    by_cases hl : ((60 : Int) < l1.length) ∨ ((l1.length : Int) ≤ 60 ∧ (60 : Int) < l2.length) ∨ ((l1.length : Int) ≤ 60 ∧ (l2.length : Int) ≤ 60 ∧ (60 : Int) < l3.length)
    · exact clones_long n (by omega) (by omega) _ _ _ _ _ _ _ _ _ hl
    · exact clones_core n (by omega) (by omega) a1 a2 a3 l1 l2 l3 c1 c2 c3 (by omega) (by omega) (by omega) ho1 ho2 ho3
end Go.Proofs.Ytoefpnmfeaimlaa
