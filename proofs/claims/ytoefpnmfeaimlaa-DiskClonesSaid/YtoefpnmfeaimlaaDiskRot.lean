/- The contract of Rot. -/
import Derived.Test.YtoefpnmfeaimlaaDisk2
import Derived.StillTailTactics
import Derived.IntWalk
import Derived.Deep.RegionHeld3
namespace Go.Proofs.Ytoefpnmfeaimlaa
open Go.RowKit Dk

set_option maxRecDepth 100000 in
set_option maxHeartbeats 400000 in
theorem rot_core {w : World} (p bb n cap k b q : Nat) (u : Nat) (h0 : w.cell? ⟨p, 0, none⟩ = some (.slice (some ⟨bb, 0, none⟩) n cap)) (hk : k < n) (hb : b < 512)
    (hq : IntKind.i64.wrap ((b : Int) / 8) = (q : Int)) (hq2 : (q : Int) < 64) (r : Nat) (hr : ((b : Int).tmod 8) = (r : Int)) (hr2 : (r : Int) < 8) (hu : w.cell? ⟨bb, k * 64 + q, none⟩ = some (.int .u8 u)) (hf : w.frozen? ⟨bb, k * 64 + q, none⟩ = false) :
    Calls Try.prog 14 #[.pointer (some ⟨p, 0, none⟩), .int .i64 k, .int .i64 b] w fun e w' => e = .returned (.int .i64 0) ∧
      w' = (w.setCell ⟨bb, k * 64 + q, none⟩ (.int .u8 (bits BinOp.xor IntKind.u8 (u : Int) (IntKind.u8.wrap (2 ^ r))))).drew := by
  go_enter Try.func14, Try.ntmps14
  go_wp2
  go_still_tail 16, (by kernel_rfl)
  rw [World.drew_eq]
  go_wp2
  go_ret
  exact ⟨rfl, rfl⟩

theorem rot_bits : ∀ (u : UInt8) (r : Nat), r < 8 → bits BinOp.xor IntKind.u8 (u.toNat : Int) (IntKind.u8.wrap (2 ^ r)) = ((u ^^^ (1 <<< UInt8.ofNat r)).toNat : Int) := by
  intro u r hr
  have h : ∀ r : Fin 8, ∀ u : Fin 256, bits BinOp.xor IntKind.u8 (u.val : Int) (IntKind.u8.wrap (2 ^ r.val)) = ((UInt8.ofNat u.val ^^^ (1 <<< UInt8.ofNat r.val)).toNat : Int) := by decide +kernel
  have := h ⟨r, hr⟩ ⟨u.toNat, u.toNat_lt⟩
  simpa using this

theorem rot_arg {w : World} (p bb n cap : Nat) (i bit : Int) (h0 : w.cell? ⟨p, 0, none⟩ = some (.slice (some ⟨bb, 0, none⟩) n cap)) (hbad : (i < 0 ∨ (n : Int) ≤ i) ∨ (0 ≤ i ∧ i < n) ∧ (bit < 0 ∨ 512 ≤ bit)) :
    Calls Try.prog 14 #[.pointer (some ⟨p, 0, none⟩), .int .i64 i, .int .i64 bit] w fun e w' => e = .returned (.int .i64 1) ∧ w = w' := by
  rcases hbad with (h | h) | ⟨⟨ha, hb⟩, h | h⟩
  · go_enter Try.func14, Try.ntmps14
    go_wp2
    go_ret
    exact ⟨rfl, rfl⟩
  · have h' : 0 ≤ i := by omega
    go_enter Try.func14, Try.ntmps14
    go_wp2
    go_ret
    exact ⟨rfl, rfl⟩
  · go_enter Try.func14, Try.ntmps14
    go_wp2
    go_ret
    exact ⟨rfl, rfl⟩
  · have h' : 0 ≤ bit := by omega
    go_enter Try.func14, Try.ntmps14
    go_wp2
    go_ret
    exact ⟨rfl, rfl⟩

theorem turnBit_length (t : List UInt8) (b : Nat) : (turnBit t b).length = t.length := by simp [turnBit]

theorem rot_any {w : World} {f : DF} {D : DS} (h : DiskAt w f D) (i bit : Int) :
    Calls Try.prog 14 #[.pointer (some ⟨f.p, 0, none⟩), .int .i64 i, .int .i64 bit] w fun e w' => e = .returned (.int .i64 (D.rotE i bit)) ∧ DiskAt w' f (D.rot i bit) ∧ Fr f.blks w w' := by
  have hD := h
  obtain ⟨c, x, lp, lw, cap, h⟩ := h
  have h0 := cell_blk h.hp 0
  simp at h0
  by_cases hg : (0 ≤ i ∧ i < D.s.length) ∧ (0 ≤ bit ∧ bit < 512)
  · obtain ⟨⟨hi0, hi1⟩, hb0, hb1⟩ := hg
    obtain ⟨k, rfl⟩ := Int.eq_ofNat_of_zero_le hi0
    obtain ⟨b, rfl⟩ := Int.eq_ofNat_of_zero_le hb0
    have hk : k < D.s.length := by omega
    have e1 : D.rotE k b = 0 := by
      simp [DS.rotE, has_true (d := D) hi0 hi1, hb1, eOK]
    have e2 : D.rot k b = D.setSec k { D.sec k with text := turnBit (D.sec k).text b } := by simp [DS.rot, e1, eOK]
    rw [e1, e2]
    have hok := sec_ok h.ok hk
    have hq : b / 8 < 64 := by omega
    have hr : b % 8 < 8 := Nat.mod_lt _ (by omega)
    have hqt : b / 8 < (D.sec k).text.length := by rw [hok.1]; exact hq
    have hu := h.hc k hk (b / 8) hq
    have hu' : c[k * 64 + b / 8]? = some (.int .u8 ((D.sec k).text.getD (b / 8) 0).toNat) := by
      rw [hu]
      simp [byteVs, byteV, List.getD, hqt]
    have hcell : w.cell? ⟨f.bb, k * 64 + b / 8, none⟩ = some (.int .u8 ((D.sec k).text.getD (b / 8) 0).toNat) := (cell_blk h.hb _).trans hu'
    refine (rot_core f.p f.bb D.s.length cap k b (b / 8) ((D.sec k).text.getD (b / 8) 0).toNat h0 hk (by omega) ?_ (by omega) (b % 8) ?_ (by omega) hcell (free_blk h.hb _)).mono ?_
    · rw [IntWalk.i64_in _ (by omega)]; omega
    · rw [Int.tmod_eq_emod_of_nonneg (by omega)]; omega
    rintro e w' ⟨rfl, rfl⟩
    rw [rot_bits _ _ hr]
    have hsc := setCell_put w f.bb (k * 64 + b / 8) (.int .u8 (((D.sec k).text.getD (b / 8) 0 ^^^ (1 <<< UInt8.ofNat (b % 8))).toNat : Int)) c _ _ h.hb
    rw [hsc]
    have hbl := lt_of_heap h.hb
    refine ⟨rfl, ?_, (Fr.refl _ _).putObj (.inl (by simp [DF.blks])) _ |>.drew⟩
    refine h.setSec hk { D.sec k with text := turnBit (D.sec k).text b } ⟨by rw [turnBit_length]; exact hok.1, hok.2⟩ (c' := c.setIfInBounds (k * 64 + b / 8) (.int .u8 (((D.sec k).text.getD (b / 8) 0 ^^^ (1 <<< UInt8.ofNat (b % 8))).toNat : Int))) ?_ ?_ ?_ ?_ (lp' := lp) ?_ ?_ (fun _ _ => rfl) (lw' := lw) ?_ ?_ (fun _ _ => rfl)
    · exact heap_put_ne _ _ _ _ h.pb
    · exact heap_put_same _ _ _ hbl
    · intro j hj
      rw [Array.getElem?_setIfInBounds]
      by_cases e : b / 8 = j
      · subst e
        rw [if_pos rfl]
        have : k * 64 + b / 8 < c.size := (Array.getElem?_eq_some_iff.1 hu').1
        rw [if_pos this]
        simp only [turnBit, byteVs, List.getElem?_map]
        rw [List.getElem?_set_self hqt]
        rfl
      · rw [if_neg (by omega), h.hc k hk j hj]
        simp only [turnBit, byteVs, List.getElem?_map]
        rw [List.getElem?_set_ne e]
    · intro i' hi' j hj
      rw [Array.getElem?_setIfInBounds, if_neg (by omega)]
    · exact h.hm.kept (heap_put_ne _ _ _ _ h.bm.symm)
    · have := h.hpend k
      rw [if_pos (has_true hi0 hi1)] at this
      simpa using this
    · exact h.hw.kept (heap_put_ne _ _ _ _ h.bw.symm)
    · have := h.hworn k
      rw [has_true hi0 hi1] at this
      simpa using this
  · have e1 : D.rotE i bit = 1 := by
      unfold DS.rotE eOK eArg
      rw [if_neg]
      simp only [Bool.and_eq_true, decide_eq_true_eq, has_iff]
      exact fun h => hg ⟨h.1.1, h.1.2, h.2⟩
    have e2 : D.rot i bit = D := by simp [DS.rot, e1, eOK]
    rw [e1, e2]
    refine (rot_arg f.p f.bb D.s.length cap i bit h0 ?_).mono ?_
    · omega
    · rintro e w' ⟨rfl, rfl⟩
      exact ⟨rfl, hD, Fr.refl _ _⟩

/-! Wear -/
set_option maxRecDepth 100000 in
theorem wear_core {w : World} (p bb n cap k mw : Nat) (h0 : w.cell? ⟨p, 0, none⟩ = some (.slice (some ⟨bb, 0, none⟩) n cap)) (h2 : w.cell? ⟨p, 2, none⟩ = some (.map (some mw))) (hk : k < n) (es : Array MapEntry) (clock : Nat)
    (hup : (Instr.mapUpdate 65 (.map (some mw)) (.int .i64 k) (.bool true)).run Try.prog w = .ok () (putObj w mw (.map es clock))) :
    Calls Try.prog 15 #[.pointer (some ⟨p, 0, none⟩), .int .i64 k] w fun e w' => e = .returned (.int .i64 0) ∧ putObj w mw (.map es clock) = w' := by
  go_enter Try.func15, Try.ntmps15
  go_wp2
  go_ret
  exact ⟨rfl, rfl⟩
theorem wear_arg {w : World} (p bb n cap : Nat) (i : Int) (h0 : w.cell? ⟨p, 0, none⟩ = some (.slice (some ⟨bb, 0, none⟩) n cap)) (hbad : i < 0 ∨ (n : Int) ≤ i) :
    Calls Try.prog 15 #[.pointer (some ⟨p, 0, none⟩), .int .i64 i] w fun e w' => e = .returned (.int .i64 1) ∧ w = w' := by
  rcases hbad with h | h
  · go_enter Try.func15, Try.ntmps15
    go_wp2
    go_ret
    exact ⟨rfl, rfl⟩
  · have h' : 0 ≤ i := by omega
    go_enter Try.func15, Try.ntmps15
    go_wp2
    go_ret
    exact ⟨rfl, rfl⟩
theorem wear_any {w : World} {f : DF} {D : DS} (h : DiskAt w f D) (i : Int) :
    Calls Try.prog 15 #[.pointer (some ⟨f.p, 0, none⟩), .int .i64 i] w fun e w' => e = .returned (.int .i64 (D.wearE i)) ∧ DiskAt w' f (D.wear i) ∧ Fr f.blks w w' := by
  have hD := h
  obtain ⟨c, x, lp, lw, cap, h⟩ := h
  have h0 := cell_blk h.hp 0
  have h2 := cell_blk h.hp 2
  simp at h0 h2
  cases hi : D.has i with
  | true =>
    obtain ⟨k, rfl, hk⟩ := nat_of hi
    have e1 : D.wearE k = 0 := by simp [DS.wearE, hi, eOK]
    have e2 : D.wear k = D.setSec k { D.sec k with worn := true } := by simp [DS.wear, hi]
    rw [e1, e2]
    obtain ⟨es, clock, hup, hes, hst⟩ := run_update_map (P := Try.prog) Try.underlying65 Try.underlying3 h.hw (k : Int) (.bool true)
    refine (wear_core f.p f.bb D.s.length cap k f.mw h0 h2 hk es clock (hup w rfl)).mono ?_
    rintro e w' ⟨rfl, rfl⟩
    have hok := sec_ok h.ok hk
    refine ⟨rfl, ?_, (Fr.refl _ _).putObj (.inl (by simp [DF.blks])) _⟩
    refine h.setSec hk { D.sec k with worn := true } hok (c' := c) ?_ ?_ (h.hc k hk) (fun _ _ _ _ => rfl) (lp' := lp) ?_ ?_ (fun _ _ => rfl) (lw' := putM lw k (.bool true)) ?_ ?_ ?_
    · exact heap_put_ne _ _ _ _ h.pw
    · rw [heap_put_ne _ _ _ _ h.bw]; exact h.hb
    · exact h.hm.kept (heap_put_ne _ _ _ _ h.mw)
    · have := h.hpend k
      rw [if_pos hi] at this
      simpa using this
    · exact ⟨es, clock, heap_put_same _ _ _ h.hw.lt, hes, hst⟩
    · rw [getM_put, if_pos rfl]; rfl
    · intro i hi; rw [getM_put, if_neg hi]
  | false =>
    have e1 : D.wearE i = 1 := by simp [DS.wearE, hi, eArg]
    have e2 : D.wear i = D := by simp [DS.wear, hi]
    rw [e1, e2]
    refine (wear_arg f.p f.bb D.s.length cap i h0 ?_).mono ?_
    · have hn : ¬ (0 ≤ i ∧ i < D.s.length) := fun h => by rw [has_true h.1 h.2] at hi; cases hi
      omega
    · rintro e w' ⟨rfl, rfl⟩
      exact ⟨rfl, hD, Fr.refl _ _⟩
end Go.Proofs.Ytoefpnmfeaimlaa
