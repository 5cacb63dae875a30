/- The contract of Mount of the disk of the specification. -/
import Derived.Test.YtoefpnmfeaimlaaRef5
namespace Go.Proofs.Ytoefpnmfeaimlaa
open Go.RowKit Dk

theorem rmount_set {w : World} {r : RF} {D : DS} (h : RAt w r D) :
    ∃ c1 c2 : Value, w.cell? ⟨r.p, 1, none⟩ = some c1 ∧ w.cell? ⟨r.p, 2, none⟩ = some c2 ∧ w.frozen? ⟨r.p, 1, none⟩ = false ∧ w.frozen? ⟨r.p, 2, none⟩ = false ∧
      RAt ((w.setCell ⟨r.p, 1, none⟩ (.bool false)).setCell ⟨r.p, 2, none⟩ (.int .i64 (-1))) r { D with off := false, left := none } ∧
      Fr r.blks w ((w.setCell ⟨r.p, 1, none⟩ (.bool false)).setCell ⟨r.p, 2, none⟩ (.int .i64 (-1))) := by
  obtain ⟨c, x, cap, h⟩ := h
  have hk := h.setP false none (-1) (by show (-1 : Int) < 0; omega) (by omega)
  have e1 := setCell_put w r.p 1 (.bool false) _ _ _ h.hp
  have hp1 : (w.setCell ⟨r.p, 1, none⟩ (.bool false)).heap[r.p]? = some (.cells #[.slice (some ⟨r.b, 0, none⟩) D.s.length cap, .bool false, .int .i64 x] 55 (0, 0)) := by rw [e1]; exact heap_put_same _ _ _ (lt_of_heap h.hp)
  have e2 := setCell_put (w.setCell ⟨r.p, 1, none⟩ (.bool false)) r.p 2 (.int .i64 (-1)) _ _ _ hp1
  have e3 : (w.setCell ⟨r.p, 1, none⟩ (.bool false)).setCell ⟨r.p, 2, none⟩ (.int .i64 (-1)) = putObj w r.p (.cells #[.slice (some ⟨r.b, 0, none⟩) D.s.length cap, .bool false, .int .i64 (-1)] 55 (0, 0)) := by
    rw [e2, e1]
    simp [putObj]
  rw [e3]
  exact ⟨_, _, h.c1, h.c2, free_blk h.hp 1, free_blk h.hp 2, hk.1, hk.2⟩

theorem pick_in (picks : List Int) (k : Nat) (x : Int) (h : picks[k]? = some x) : pickAt picks k = x := by
  simp [pickAt, List.getD, h]
theorem pick_out (picks : List Int) (k : Nat) (h : picks.length ≤ k) : pickAt picks k = 64 := by
  simp [pickAt, List.getD, h]
theorem pendTo_few (D : DS) (j : Nat) : (pendTo D j).length ≤ j := by
  unfold pendTo
  exact Nat.le_trans (List.length_filter_le _ _) (by simp)

set_option maxHeartbeats 1000000 in
set_option maxRecDepth 100000 in
theorem rmount_core {w : World} {r : RF} {D : DS} (hR : Hid (RAt w r D)) (hfew : (D.s.length : Int) ≤ 4096) (pa : Option Addr) (n pcap : Nat) (picks : List Int) (hn : Hid (picks.length = n)) (hpk : Hid (IntsIn w r.blks (.slice pa n pcap) picks)) :
    Calls Try.prog 42 #[.pointer (some ⟨r.p, 0, none⟩), .slice pa n pcap] w fun e w' => e = .returned (.tuple #[]) ∧ RAt w' r { D.settleAll picks 0 D.pend with off := false, left := none } ∧ Fr r.blks w w' := by
  go_enter Try.func42, Try.ntmps42
  go_wp2
  go_loopw [4, 5] (fun kv iv wr => ∃ j k : Nat, j ≤ D.s.length ∧ k ≤ j ∧ k = (pendTo D j).length ∧ kv = .int .i64 k ∧ iv = .int .i64 j ∧ RAt wr r (after D picks j) ∧ Fr r.blks w wr) (fun _ iv _ => D.s.length - (intOf iv).toNat)
  case atStart => exact ⟨0, 0, Nat.zero_le _, Nat.le_refl _, rfl, rfl, rfl, hR.out, Fr.refl _ _⟩
  case round =>
    obtain ⟨j, k, hj, hkj, hk, rfl, rfl, hD, hF⟩ := hrel
    have hlen := after_len D picks j
    have hc0 : ∃ cap, wr.cell? ⟨r.p, 0, none⟩ = some (.slice (some ⟨r.b, 0, none⟩) D.s.length cap) := by
      obtain ⟨c, x, cap, h⟩ := hD
      exact ⟨cap, hlen ▸ h.c0⟩
    obtain ⟨cap, c0⟩ := hc0
    by_cases hlt : j < D.s.length
    · have hjn : (j : Int) < D.s.length := by omega
      have hj4 : (j : Int) < 4096 := by omega
      have hk4 : (k : Int) < 4096 := by omega
      have hsec := after_sec D picks j hlt
      have hs2 : wr.cell? ⟨r.b, j * 4 + 2, none⟩ = some (.bool (D.sec j).next.isSome) := by
        obtain ⟨c, x, cap, h⟩ := hD
        rw [← hsec]
        exact (h.sec (by rw [hlen]; exact hlt)).2.2.1
      have HF := Lib.hid hF
      cases hn2 : (D.sec j).next with
      | none =>
        rw [hn2] at hs2
        simp only [Option.isSome_none] at hs2
        have ha := after_none D picks j hn2
        rw [← ha] at hD
        have HD := Lib.hid hD
        have hk2 : k = (pendTo D (j + 1)).length := by rw [pendTo_none D j hn2]; exact hk
        have HK := Lib.hid hk2
        clear hD hF ha hn2 hlen hsec hk hk2
        go_wp2
        go_roundw
        case rel => exact ⟨j + 1, k, by omega, by omega, HK.out, rfl, by go_num, HD.out, HF.out⟩
        case measure => simp [intOf]; omega
      | some t =>
        rw [hn2] at hs2
        simp only [Option.isSome_some] at hs2
        have ha := after_some D picks j t hn2
        have hs := rsettle_any hD j (by rw [hlen]; exact hlt) t (by rw [hsec]; exact hn2) (pickAt picks (pendTo D j).length)
        rw [← ha, ← hk] at hs
        have hk2 : k + 1 = (pendTo D (j + 1)).length := by rw [pendTo_some D j t hn2, List.length_append]; simp; omega
        have HK := Lib.hid hk2
        have HI := Lib.hid (hpk.out.fr hF)
        clear hD hF ha hn2 hlen hsec hk hk2
        by_cases hkn : k < n
        · have hkn5 : (k : Int) < n := by omega
          have hkl : k < picks.length := by rw [hn.out]; exact hkn
          have hpl : ∃ b o, pa = some ⟨b, o, none⟩ := by
            obtain ⟨b, o, c, hv⟩ := HI.out.place (fun e => by rw [e] at hkl; simp at hkl)
            exact ⟨b, o, (Value.slice.inj hv).1⟩
          obtain ⟨pb, po, rfl⟩ := hpl
          have hcell := HI.out.at (List.getElem?_eq_getElem hkl)
          rw [pick_in picks k _ (List.getElem?_eq_getElem hkl)] at hs
          generalize picks[k] = pv at hs hcell
          have HS2 := Lib.hid hs
          clear hs hkl
          go_wp2_with (go_at_call 60; refine HS2.out.mono ?_; rintro e W3 ⟨rfl, hD3, hF3⟩; have HD3 := Lib.hid hD3; have HF3 := Lib.hid hF3; clear hD3 hF3)
          go_roundw
          case rel => exact ⟨j + 1, k + 1, by omega, by omega, HK.out, by go_num, by go_num, HD3.out, HF.out.trans HF3.out⟩
          case measure => simp [intOf]; omega
        · have hkn5 : (n : Int) ≤ k := by omega
          rw [pick_out picks k (by rw [hn.out]; omega)] at hs
          have HS2 := Lib.hid hs
          clear hs hkn
          go_wp2_with (go_at_call 60; refine HS2.out.mono ?_; rintro e W3 ⟨rfl, hD3, hF3⟩; have HD3 := Lib.hid hD3; have HF3 := Lib.hid hF3; clear hD3 hF3)
          go_roundw
          case rel => exact ⟨j + 1, k + 1, by omega, by omega, HK.out, by go_num, by go_num, HD3.out, HF.out.trans HF3.out⟩
          case measure => simp [intOf]; omega
    · obtain rfl : j = D.s.length := by omega
      have hD : RAt wr r (D.settleAll picks 0 D.pend) := hD
      obtain ⟨c1, c2, h1, h2, f1, f2, hd, hfr⟩ := rmount_set hD
      have HD := Lib.hid hd
      have HF := Lib.hid (hF.trans hfr)
      clear hd hfr hD hF hj hlen hk hkj
      go_wp2
      go_end0
      exact ⟨rfl, HD.out, HF.out⟩

theorem rmount_any {w : World} {r : RF} {D : DS} (h : RAt w r D) (v : Value) (picks : List Int) (hp : IntsIn w r.blks v picks) :
    Calls Try.prog 42 #[.pointer (some ⟨r.p, 0, none⟩), v] w fun e w' => e = .returned (.tuple #[]) ∧ RAt w' r (D.mount picks) ∧ Fr r.blks w w' := by
  obtain ⟨pa, pcap, rfl⟩ := hp.cells
  have hfew : (D.s.length : Int) ≤ 4096 := by obtain ⟨c, x, cap, h⟩ := h; have := h.few; omega
  exact rmount_core h hfew pa _ pcap picks rfl hp
end Go.Proofs.Ytoefpnmfeaimlaa
