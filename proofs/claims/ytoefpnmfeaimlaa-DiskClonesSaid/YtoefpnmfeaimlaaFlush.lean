/- The contracts of Flush and Mount. -/
import Derived.Test.YtoefpnmfeaimlaaSettle2
import Derived.Test.YtoefpnmfeaimlaaKeys
import Derived.Test.YtoefpnmfeaimlaaDiskWrite
namespace Go.Proofs.Ytoefpnmfeaimlaa
open Go.RowKit Dk

/-- The value v is a slice that holds the numbers l; its block is none of S. -/
def IntsIn (w : World) (S : List Nat) (v : Value) (l : List Int) : Prop :=
  (l = [] ∧ ∃ a cap, v = .slice a 0 cap) ∨ ∃ b o cap, v = .slice (some ⟨b, o, none⟩) l.length cap ∧ b ∉ S ∧ ∀ j x, l[j]? = some x → w.cell? ⟨b, o + j, none⟩ = some (.int .i64 x)
theorem IntsIn.fr {w w' : World} {S : List Nat} {v : Value} {l : List Int} (h : IntsIn w S v l) (k : Fr S w w') : IntsIn w' S v l := by
  rcases h with h | ⟨b, o, cap, hv, hb, hc⟩
  · exact .inl h
  · refine .inr ⟨b, o, cap, hv, hb, fun j x hx => ?_⟩
    have := hc j x hx
    rw [← this]
    exact World.cell?_of_block (w := w) (k.block b (lt_of_cell this) hb)
theorem IntsAt.inn {w : World} {base : Nat} {v : Value} {l : List Int} (h : IntsAt w base v l) {S : List Nat} (hS : ∀ b ∈ S, b < base) : IntsIn w S v l := by
  obtain ⟨_, h | ⟨g, cap, cur, hv, hg, hb, hn, hc, hs, ht⟩⟩ := h
  · refine .inl ⟨List.eq_nil_of_length_eq_zero h.2, none, 0, h.1⟩
  · refine .inr ⟨g, 0, cap, hv, fun hm => by have := hS g hm; omega, fun j x hx => ?_⟩
    have hj : j < l.length := (List.getElem?_eq_some_iff.1 hx).1
    rw [cell_blk hb, Nat.zero_add]
    have := congrArg (fun q => q[j]?) ht
    simp only [List.getElem?_map, hx, Option.map_some, Nat.mul_one] at this
    rw [List.getElem?_take, if_pos hj, Array.getElem?_toList] at this
    exact this
theorem IntsIn.cells {w : World} {S : List Nat} {v : Value} {l : List Int} (h : IntsIn w S v l) : ∃ a cap, v = .slice a l.length cap := by
  rcases h with ⟨rfl, a, cap, h⟩ | ⟨b, o, cap, h, _⟩
  · exact ⟨a, cap, h⟩
  · exact ⟨_, _, h⟩

theorem IntsIn.place {w : World} {S : List Nat} {v : Value} {l : List Int} (h : IntsIn w S v l) (hne : l ≠ []) : ∃ b o cap, v = .slice (some ⟨b, o, none⟩) l.length cap := by
  rcases h with ⟨rfl, _⟩ | ⟨b, o, cap, h, _⟩
  · exact absurd rfl hne
  · exact ⟨_, _, _, h⟩
theorem IntsIn.at {w : World} {S : List Nat} {l : List Int} {b o n cap : Nat} (h : IntsIn w S (.slice (some ⟨b, o, none⟩) n cap) l) {j : Nat} {x : Int} (hx : l[j]? = some x) : w.cell? ⟨b, o + j, none⟩ = some (.int .i64 x) := by
  rcases h with ⟨rfl, _⟩ | ⟨b', o', cap', h, _, hc⟩
  · simp at hx
  · cases h; exact hc j x hx
theorem ints_ne {l : List Nat} (h : l ≠ []) : ints l ≠ [] := fun e => h (List.map_eq_nil_iff.1 e)
theorem pend_few {w : World} {f : DF} {D : DS} (h : DiskAt w f D) : D.pend.length ≤ 4096 := by
  obtain ⟨c, x, lp, lw, cap, h⟩ := h
  have h1 : D.pend.length ≤ D.s.length := by
    unfold DS.pend nums
    exact Nat.le_trans (List.length_filter_le _ _) (by simp)
  exact Nat.le_trans h1 h.few
theorem flush_down {w : World} (p : Nat) (v : Int) (hv : (v != 0) = true)
    (HC : Hid (Calls Try.prog 31 #[.pointer (some ⟨p, 0, none⟩), .int .i64 0] w fun e w' => e = .returned (.int .i64 v) ∧ w = w')) :
    Calls Try.prog 22 #[.pointer (some ⟨p, 0, none⟩)] w fun e w' => e = .returned (.int .i64 v) ∧ w = w' := by
  go_enter Try.func22, Try.ntmps22
  go_wp2_with (go_at_call 31; refine HC.out.mono ?_; rintro e w' ⟨rfl, rfl⟩)
  go_ret
  exact ⟨rfl, rfl⟩
theorem flush_step {w W1 : World} (p : Nat) (v : Int) (hv : (v != 0) = true)
    (HC : Hid (Calls Try.prog 31 #[.pointer (some ⟨p, 0, none⟩), .int .i64 0] w fun e w' => e = .returned (.int .i64 0) ∧ w = w'))
    (HS : Hid (Calls Try.prog 32 #[.pointer (some ⟨p, 0, none⟩)] w fun e w' => e = .returned (.int .i64 v) ∧ W1 = w')) :
    Calls Try.prog 22 #[.pointer (some ⟨p, 0, none⟩)] w fun e w' => e = .returned (.int .i64 v) ∧ W1 = w' := by
  go_enter Try.func22, Try.ntmps22
  go_wp2_with (first
    | (go_at_call 31; refine HC.out.mono ?_; rintro e w' ⟨rfl, rfl⟩)
    | (go_at_call 32; refine HS.out.mono ?_; rintro e w' ⟨rfl, rfl⟩))
  go_ret
  exact ⟨rfl, rfl⟩

theorem ints_len (l : List Nat) : (ints l).length = l.length := by simp [ints]
theorem ints_get (l : List Nat) (j : Nat) (hj : j < l.length) : (ints l)[j]? = some ((l[j] : Nat) : Int) := by simp [ints, hj]

set_option maxHeartbeats 400000 in
set_option maxRecDepth 100000 in
theorem flush_none {w W1 : World} {f : DF} {D : DS} (h1 : Hid (DiskAt W1 f D)) (hp : Hid (D.pend = []))
    (HC : Hid (Calls Try.prog 31 #[.pointer (some ⟨f.p, 0, none⟩), .int .i64 0] w fun e w' => e = .returned (.int .i64 0) ∧ w = w'))
    (HS : Hid (Calls Try.prog 32 #[.pointer (some ⟨f.p, 0, none⟩)] w fun e w' => e = .returned (.int .i64 0) ∧ W1 = w')) :
    Calls Try.prog 22 #[.pointer (some ⟨f.p, 0, none⟩)] w fun e w' => e = .returned (.int .i64 0) ∧ Fr [] W1 w' := by
  go_enter Try.func22, Try.ntmps22
  go_wp2_with (first
    | (go_at_call 31; refine HC.out.mono ?_; rintro e w' ⟨rfl, rfl⟩)
    | (go_at_call 32; refine HS.out.mono ?_; rintro e w' ⟨rfl, rfl⟩)
    | (go_at_call 17; refine (pending_any h1.out).mono ?_; rintro e W2 ⟨v, rfl, hv, hb⟩; rw [hp.out] at hv; have HB := Lib.hid hb; obtain ⟨a, cap, rfl⟩ := (hv.inn (S := []) (by simp)).cells; clear hv hb))
  go_loopw [20] (fun i wr => i = .int .i64 0 ∧ Fr [] W1 wr) (fun _ _ => 0)
  case atStart => exact ⟨rfl, Fr.of_below HB.out⟩
  case round =>
    obtain ⟨rfl, hf⟩ := hrel
    go_wp2
    go_ret
    exact ⟨rfl, hf⟩

set_option maxHeartbeats 400000 in
set_option maxRecDepth 100000 in
theorem flush_loop {w W1 : World} {f : DF} {D : DS} (h1 : Hid (DiskAt W1 f D)) (hp : Hid (D.pend ≠ []))
    (HC : Hid (Calls Try.prog 31 #[.pointer (some ⟨f.p, 0, none⟩), .int .i64 0] w fun e w' => e = .returned (.int .i64 0) ∧ w = w'))
    (HS : Hid (Calls Try.prog 32 #[.pointer (some ⟨f.p, 0, none⟩)] w fun e w' => e = .returned (.int .i64 0) ∧ W1 = w')) :
    Calls Try.prog 22 #[.pointer (some ⟨f.p, 0, none⟩)] w fun e w' => e = .returned (.int .i64 0) ∧ DiskAt w' f (D.settleAll [] 0 D.pend) ∧ Fr f.blks W1 w' := by
  have hlt := h1.out.lt
  have HL := Lib.hid hlt
  have HP := Lib.hid (pend_few h1.out)
  clear hlt
  go_enter Try.func22, Try.ntmps22
  go_wp2_with (first
    | (go_at_call 31; refine HC.out.mono ?_; rintro e w' ⟨rfl, rfl⟩)
    | (go_at_call 32; refine HS.out.mono ?_; rintro e w' ⟨rfl, rfl⟩)
    | (go_at_call 17; refine (pending_any h1.out).mono ?_; rintro e W2 ⟨v, rfl, hv, hb⟩; have HB := Lib.hid hb; have HI0 := hv.inn HL.out; obtain ⟨b, o, cap, rfl⟩ := HI0.place (ints_ne hp.out); have HI := Lib.hid HI0; rw [ints_len]; clear hv hb HI0))
  go_loopw [20] (fun i wr => ∃ j : Nat, j ≤ D.pend.length ∧ i = .int .i64 j ∧ DiskAt wr f (D.settleAll [] 0 (D.pend.take j)) ∧ Fr f.blks W1 wr ∧ IntsIn wr f.blks (.slice (some ⟨b, o, none⟩) (ints D.pend).length cap) (ints D.pend)) (fun i _ => D.pend.length - (intOf i).toNat)
  case atStart => exact ⟨0, Nat.zero_le _, rfl, h1.out.fr (Fr.of_below HB.out (S := [])) (by simp), Fr.of_below HB.out, HI.out⟩
  case round =>
    obtain ⟨j, hj, rfl, hD, hF, hI⟩ := hrel
    by_cases hlt : j < D.pend.length
    · have hj4 : (j : Int) < 4096 := by have := HP.out; omega
      have hcell := hI.at (ints_get D.pend j hlt)
      obtain ⟨hk, t, ht⟩ := pend_next D [] j hlt
      have hs := settle_any hD D.pend[j] hk t ht 64
      have hnx := settleAll_next D [] j hlt
      rw [show pickAt [] j = 64 from rfl] at hnx
      rw [← hnx] at hs
      have HS2 := Lib.hid hs
      have HF := Lib.hid hF
      have HI2 := Lib.hid hI
      generalize D.pend[j] = k at *
      clear hs hnx hk ht hD hF hI
      go_wp2_with (go_at_call 37; refine HS2.out.mono ?_; rintro e W3 ⟨rfl, hD3, hF3⟩; have HD3 := Lib.hid hD3; have HF3 := Lib.hid hF3; clear hD3 hF3)
      go_roundw
      case rel => exact ⟨j + 1, by omega, by go_num, HD3.out, HF.out.trans HF3.out, HI2.out.fr HF3.out⟩
      case measure => simp [intOf]; omega
    · obtain rfl : j = D.pend.length := by omega
      rw [List.take_length] at hD
      have HD := Lib.hid hD
      have HF := Lib.hid hF
      clear hD hF hI hj
      go_wp2
      go_ret
      exact ⟨rfl, HD.out, HF.out⟩

theorem flush_any {w : World} {f : DF} {D : DS} (h : DiskAt w f D) :
    Calls Try.prog 22 #[.pointer (some ⟨f.p, 0, none⟩)] w fun e w' => e = .returned (.int .i64 D.flushE) ∧ DiskAt w' f D.flush ∧ Fr f.blks w w' := by
  have hch := check_any h 0
  have hone : D.has 0 = true := by
    obtain ⟨c, x, lp, lw, cap, h⟩ := h
    exact has_true (by omega) (by have := h.one; omega)
  cases ho : D.off with
  | true =>
    have e0 : D.check 0 = 24 := by simp [DS.check, ho, eDown]
    have e1 : D.flushE = 24 := by simp [DS.flushE, ho, eDown]
    have e2 : D.flush = D := by simp [DS.flush, ho]
    rw [e0] at hch
    rw [e1, e2]
    exact (flush_down f.p 24 rfl hch).mono fun e w' ⟨he, hw⟩ => by subst hw; exact ⟨he, h, Fr.refl _ _⟩
  | false =>
    have e0 : D.check 0 = 0 := by simp [DS.check, ho, hone, eOK]
    rw [e0] at hch
    obtain ⟨W1, hD1, hF1, _, hst⟩ := step_ex h
    rcases step_cases D with hq | ⟨hq, hs1, _⟩
    · rw [hq] at hst
      have e1 : D.flushE = 24 := by simp [DS.flushE, ho, hq]
      have e2 : D.flush = D.step.1 := by simp [DS.flush, ho, hq, eOK]
      rw [e1, e2]
      exact (flush_step f.p 24 rfl hch hst).mono fun e w' ⟨he, hw⟩ => by subst hw; exact ⟨he, hD1, hF1⟩
    · rw [hq] at hst
      have e1 : D.flushE = 0 := by simp [DS.flushE, ho, hq]
      have e2 : D.flush = D.step.1.settleAll [] 0 D.step.1.pend := by simp [DS.flush, ho, hq, eOK, DS.pend, hs1]
      rw [e1, e2]
      by_cases hp : D.step.1.pend = []
      · rw [hp]
        exact (flush_none hD1 hp hch hst).mono fun e w' ⟨he, hw⟩ => ⟨he, hD1.fr hw (by simp), hF1.trans (hw.mono (by simp))⟩
      · exact (flush_loop hD1 hp hch hst).mono fun e w' ⟨he, hd, hw⟩ => ⟨he, hd, hF1.trans hw⟩

/-! Mount -/
theorem mount_set {w : World} {f : DF} {D : DS} (h : DiskAt w f D) :
    ∃ c3 c4 : Value, w.cell? ⟨f.p, 3, none⟩ = some c3 ∧ w.cell? ⟨f.p, 4, none⟩ = some c4 ∧ w.frozen? ⟨f.p, 3, none⟩ = false ∧ w.frozen? ⟨f.p, 4, none⟩ = false ∧
      DiskAt ((w.setCell ⟨f.p, 3, none⟩ (.bool false)).setCell ⟨f.p, 4, none⟩ (.int .i64 (-1))) f { D with off := false, left := none } ∧
      Fr f.blks w ((w.setCell ⟨f.p, 3, none⟩ (.bool false)).setCell ⟨f.p, 4, none⟩ (.int .i64 (-1))) := by
  obtain ⟨c, x, lp, lw, cap, h⟩ := h
  have h4 := cell_blk h.hp 4
  have h3 := cell_blk h.hp 3
  simp at h3 h4
  have hk := h.setP false none (-1) (by show (-1 : Int) < 0; omega) (by omega)
  have e1 := setCell_put w f.p 3 (.bool false) _ _ _ h.hp
  have hp1 : (w.setCell ⟨f.p, 3, none⟩ (.bool false)).heap[f.p]? = some (.cells #[.slice (some ⟨f.bb, 0, none⟩) D.s.length cap, .map (some f.mp), .map (some f.mw), .bool false, .int .i64 x] 67 (0, 0)) := by rw [e1]; exact heap_put_same _ _ _ (lt_of_heap h.hp)
  have e2 := setCell_put (w.setCell ⟨f.p, 3, none⟩ (.bool false)) f.p 4 (.int .i64 (-1)) _ _ _ hp1
  have e3 : (w.setCell ⟨f.p, 3, none⟩ (.bool false)).setCell ⟨f.p, 4, none⟩ (.int .i64 (-1)) = putObj w f.p (.cells #[.slice (some ⟨f.bb, 0, none⟩) D.s.length cap, .map (some f.mp), .map (some f.mw), .bool false, .int .i64 (-1)] 67 (0, 0)) := by
    rw [e2, e1]
    simp [putObj]
  rw [e3]
  exact ⟨_, _, h3, h4, free_blk h.hp 3, free_blk h.hp 4, hk.1, hk.2⟩

set_option maxHeartbeats 400000 in
set_option maxRecDepth 100000 in
theorem mount_none {w : World} {f : DF} {D : DS} (h1 : Hid (DiskAt w f D)) (hp : Hid (D.pend = [])) (v : Value) :
    Calls Try.prog 23 #[.pointer (some ⟨f.p, 0, none⟩), v] w fun e w' => e = .returned (.tuple #[]) ∧ DiskAt w' f { D with off := false, left := none } ∧ Fr f.blks w w' := by
  go_enter Try.func23, Try.ntmps23
  go_wp2_with (go_at_call 17; refine (pending_any h1.out).mono ?_; rintro e W2 ⟨u, rfl, hv, hb⟩; rw [hp.out] at hv; have HB := Lib.hid hb; obtain ⟨a, cap, rfl⟩ := (hv.inn (S := []) (by simp)).cells; clear hv hb)
  go_loopw [10] (fun i wr => i = .int .i64 0 ∧ Fr [] w wr) (fun _ _ => 0)
  case atStart => exact ⟨rfl, Fr.of_below HB.out⟩
  case round =>
    obtain ⟨rfl, hf⟩ := hrel
    obtain ⟨c3, c4, h3, h4, f3, f4, hd, hfr⟩ := mount_set (h1.out.fr hf (by simp))
    have HD := Lib.hid hd
    have HF := Lib.hid ((hf.mono (by simp)).trans hfr)
    clear hd hfr hf
    go_wp2
    go_end0
    exact ⟨rfl, HD.out, HF.out⟩

set_option maxHeartbeats 800000 in
set_option maxRecDepth 100000 in
theorem mount_loop {w : World} {f : DF} {D : DS} (h1 : Hid (DiskAt w f D)) (hp : Hid (D.pend ≠ [])) (pa : Option Addr) (pcap : Nat) (picks : List Int) (hpk : Hid (IntsIn w f.blks (.slice pa picks.length pcap) picks)) :
    Calls Try.prog 23 #[.pointer (some ⟨f.p, 0, none⟩), .slice pa picks.length pcap] w fun e w' => e = .returned (.tuple #[]) ∧ DiskAt w' f { D.settleAll picks 0 D.pend with off := false, left := none } ∧ Fr f.blks w w' := by
  have hlt := h1.out.lt
  have HL := Lib.hid hlt
  have HP := Lib.hid (pend_few h1.out)
  clear hlt
  go_enter Try.func23, Try.ntmps23
  go_wp2_with (go_at_call 17; refine (pending_any h1.out).mono ?_; rintro e W2 ⟨u, rfl, hv, hb⟩; have HB := Lib.hid hb; have HI0 := hv.inn HL.out; obtain ⟨b, o, cap, rfl⟩ := HI0.place (ints_ne hp.out); have HI := Lib.hid HI0; rw [ints_len]; clear hv hb HI0)
  go_loopw [10] (fun i wr => ∃ j : Nat, j ≤ D.pend.length ∧ i = .int .i64 j ∧ DiskAt wr f (D.settleAll picks 0 (D.pend.take j)) ∧ Fr f.blks w wr ∧ IntsIn wr f.blks (.slice (some ⟨b, o, none⟩) (ints D.pend).length cap) (ints D.pend)) (fun i _ => D.pend.length - (intOf i).toNat)
  case atStart => exact ⟨0, Nat.zero_le _, rfl, h1.out.fr (Fr.of_below HB.out (S := [])) (by simp), Fr.of_below HB.out, HI.out⟩
  case round =>
    obtain ⟨j, hj, rfl, hD, hF, hI⟩ := hrel
    by_cases hlt : j < D.pend.length
    · have hj4 : (j : Int) < 4096 := by have := HP.out; omega
      have hcell := hI.at (ints_get D.pend j hlt)
      obtain ⟨hk, t, ht⟩ := pend_next D picks j hlt
      have hs := settle_any hD D.pend[j] hk t ht (pickAt picks j)
      have hnx := settleAll_next D picks j hlt
      rw [← hnx] at hs
      have HF := Lib.hid hF
      have HI2 := Lib.hid hI
      have hpi := hpk.out.fr hF
      generalize D.pend[j] = k at *
      clear hnx hk ht hD hF hI
      by_cases hjp : j < picks.length
      · obtain ⟨b2, o2, cap2, e⟩ := hpi.place (by intro e; rw [e] at hjp; simp at hjp)
        cases e
        have hpj : pickAt picks j = picks[j] := by simp [pickAt, hjp]
        have hc2 := hpi.at (List.getElem?_eq_getElem hjp)
        rw [hpj] at hs
        have HS2 := Lib.hid hs
        generalize picks[j] = pj at *
        clear hs hpi hpj
        go_wp2_with (go_at_call 37; refine HS2.out.mono ?_; rintro e W3 ⟨rfl, hD3, hF3⟩; have HD3 := Lib.hid hD3; have HF3 := Lib.hid hF3; clear hD3 hF3)
        go_roundw
        case rel => exact ⟨j + 1, by omega, by go_num, HD3.out, HF.out.trans HF3.out, HI2.out.fr HF3.out⟩
        case measure => simp [intOf]; omega
      · have hpj : pickAt picks j = 64 := by simp [pickAt, List.getD, List.getElem?_eq_none (Nat.not_lt.1 hjp)]
        rw [hpj] at hs
        have HS2 := Lib.hid hs
        have hge : picks.length ≤ j := by omega
        clear hs hpi hpj
        go_wp2_with (go_at_call 37; refine HS2.out.mono ?_; rintro e W3 ⟨rfl, hD3, hF3⟩; have HD3 := Lib.hid hD3; have HF3 := Lib.hid hF3; clear hD3 hF3)
        go_roundw
        case rel => exact ⟨j + 1, by omega, by go_num, HD3.out, HF.out.trans HF3.out, HI2.out.fr HF3.out⟩
        case measure => simp [intOf]; omega
    · obtain rfl : j = D.pend.length := by omega
      rw [List.take_length] at hD
      obtain ⟨c3, c4, h3, h4, f3, f4, hd, hfr⟩ := mount_set hD
      have HD := Lib.hid hd
      have HF := Lib.hid (hF.trans hfr)
      clear hD hF hI hj hd hfr
      go_wp2
      go_end0
      exact ⟨rfl, HD.out, HF.out⟩

theorem mount_any {w : World} {f : DF} {D : DS} (h : DiskAt w f D) (v : Value) (picks : List Int) (hpk : IntsIn w f.blks v picks) :
    Calls Try.prog 23 #[.pointer (some ⟨f.p, 0, none⟩), v] w fun e w' => e = .returned (.tuple #[]) ∧ DiskAt w' f (D.mount picks) ∧ Fr f.blks w w' := by
  by_cases hp : D.pend = []
  · have e : D.mount picks = { D with off := false, left := none } := by simp [DS.mount, hp, DS.settleAll]
    rw [e]
    exact mount_none h hp v
  · obtain ⟨a, cap, rfl⟩ := hpk.cells
    exact mount_loop h hp a cap picks hpk
end Go.Proofs.Ytoefpnmfeaimlaa
