/- The contract of Rot of the disk of the specification. -/
import Derived.Test.YtoefpnmfeaimlaaRef8
import Derived.Test.YtoefpnmfeaimlaaDiskRot
namespace Go.Proofs.Ytoefpnmfeaimlaa
open Go.RowKit Dk

theorem exec_convert {P : Program} {op : Oper} {a : Act} {w w' : World} {src dst : TypeId} {x : Operand} (ho : op.op = .convert src dst x) {v u : Value} (hx : a.eval x = v) (h : (convert src dst v).run P w = .ok u w') : (execOp a.eval op).run P w = .ok (.value u) w' := by
  unfold execOp
  simp only [ho, hx, Sem.run_bind, Sem.run_pure, h, Result.andThen_ok]

attribute [local irreducible] wpMixN

theorem rrot_is {w : World} (p : Nat) (i bit : Int)
    (HI : Hid (Calls Try.prog 58 #[.pointer (some ⟨p, 0, none⟩), .int .i64 i] w fun e w' => e = .returned (.bool false) ∧ w = w')) :
    Calls Try.prog 43 #[.pointer (some ⟨p, 0, none⟩), .int .i64 i, .int .i64 bit] w fun e w' => e = .returned (.int .i64 1) ∧ w = w' := by
  go_enter Try.func43, Try.ntmps43
  go_wp2_with (go_at_call 58; refine HI.out.mono ?_; rintro e w' ⟨rfl, rfl⟩)
  go_ret
  exact ⟨rfl, rfl⟩
theorem rrot_bit {w : World} (p : Nat) (i bit : Int) (hb : bit < 0 ∨ 511 < bit)
    (HI : Hid (Calls Try.prog 58 #[.pointer (some ⟨p, 0, none⟩), .int .i64 i] w fun e w' => e = .returned (.bool true) ∧ w = w')) :
    Calls Try.prog 43 #[.pointer (some ⟨p, 0, none⟩), .int .i64 i, .int .i64 bit] w fun e w' => e = .returned (.int .i64 1) ∧ w = w' := by
  rcases hb with hb | hb
  · go_enter Try.func43, Try.ntmps43
    go_wp2_with (go_at_call 58; refine HI.out.mono ?_; rintro e w' ⟨rfl, rfl⟩)
    go_ret
    exact ⟨rfl, rfl⟩
  · have hb2 : 0 ≤ bit := by omega
    go_enter Try.func43, Try.ntmps43
    go_wp2_with (go_at_call 58; refine HI.out.mono ?_; rintro e w' ⟨rfl, rfl⟩)
    go_ret
    exact ⟨rfl, rfl⟩

set_option maxHeartbeats 1000000 in
set_option maxRecDepth 100000 in
theorem rrot_core {w W1 W2 : World} (p b n cap k g bc bit q : Nat) (t t' : List UInt8) (u : Nat)
    (HI : Hid (Calls Try.prog 58 #[.pointer (some ⟨p, 0, none⟩), .int .i64 k] w fun e w' => e = .returned (.bool true) ∧ w = w'))
    (h0 : w.cell? ⟨p, 0, none⟩ = some (.slice (some ⟨b, 0, none⟩) n cap)) (hk : (k : Int) < n) (hb : (bit : Int) < 512) (c0 : w.cell? ⟨b, k * 4, none⟩ = some (.string ⟨t.toArray⟩))
    (hcv : Hid ((convert 9 68 (.string ⟨t.toArray⟩)).run Try.prog w = .ok (.slice (some ⟨g, 0, none⟩) 64 bc) W1))
    (hq : IntKind.i64.wrap ((bit : Int) / 8) = (q : Int)) (hq2 : (q : Int) < 64) (r : Nat) (hr : ((bit : Int).tmod 8) = (r : Int)) (hr2 : (r : Int) < 8) (hu : Hid (W1.drew.cell? ⟨g, q, none⟩ = some (.int .u8 u))) (hu2 : W1.cell? ⟨g, q, none⟩ = some (.int .u8 u)) (hf : W1.frozen? ⟨g, q, none⟩ = false)
    (hW2 : (W1.setCell ⟨g, q, none⟩ (.int .u8 (bits BinOp.xor IntKind.u8 (u : Int) (IntKind.u8.wrap (2 ^ r))))).drew = W2)
    (h02 : Hid (W2.drew.cell? ⟨p, 0, none⟩ = some (.slice (some ⟨b, 0, none⟩) n cap))) (hrg : Hid (W2.drew.rangeAt g 0 (byteVs t'))) (ht' : t'.length = 64)
    (o0 : Value) (c02 : W2.cell? ⟨b, k * 4, none⟩ = some o0) (f02 : W2.frozen? ⟨b, k * 4, none⟩ = false) :
    Calls Try.prog 43 #[.pointer (some ⟨p, 0, none⟩), .int .i64 k, .int .i64 bit] w fun e w' => e = .returned (.int .i64 0) ∧ (W2.setCell ⟨b, k * 4, none⟩ (.string ⟨t'.toArray⟩)).drew = w' := by
  have HW := Lib.hid hW2
  have HT := Lib.hid ht'
  have FC := Lib.hid c02
  have FF := Lib.hid f02
  clear hW2 ht' c02 f02
  go_enter Try.func43, Try.ntmps43
  go_wp2_with (first
    | (go_at_call 58; refine HI.out.mono ?_; rintro e w' ⟨rfl, rfl⟩)
    | (refine wpList_run rfl (exec_convert rfl rfl hcv.out) ?_))
  refine wp_region_mixesN (fun W => W.cell? ⟨g, q, none⟩ = some (.int .u8 u)) [13]
    [(true, 0), (true, 1), (true, 2), (true, 3), (true, 4), (true, 5), (true, 6), (true, 7), (true, 8), (true, 9), (true, 10), (true, 11), (true, 12), (false, 13)] (by kernel_rfl) (by kernel_rfl) ?_
  repeat (apply wpMixN_take rfl rfl hu.out; (focus (rintro W d0; go_simp; rfl)); intro K' hK; go_simp; refine hK _ _ ?_; clear hK K')
  refine wpMixN_go rfl rfl (fun K' hK => ?_)
  go_simp
  refine hK _ _ ⟨(fun h => by cases h), ?_⟩
  clear hK K'
  refine wpMixN_nil ?_
  rw [HW.out]
  clear hu2 hf hq hr
  go_wp2
  refine wp_region_mixesN (fun W => W.cell? ⟨p, 0, none⟩ = some (.slice (some ⟨b, 0, none⟩) n cap)) [9]
    [(true, 0), (true, 1), (true, 2), (true, 3), (true, 4), (true, 5), (false, 6), (false, 7), (true, 8), (false, 9)] (by kernel_rfl) (by kernel_rfl) ?_
  repeat (apply wpMixN_take rfl rfl h02.out; (focus (rintro W d0; go_simp; rfl)); intro K' hK; go_simp; refine hK _ _ ?_; clear hK K')
  refine wpMixN_value rfl rfl (exec_convert rfl rfl (run_bytesStr 68 9 5 Try.underlying68 Try.underlying5 Try.underlying9 g 0 64 bc t' HT.out hrg.out)) (fun _ => h02.out) ?_
  unfold strV
  go_simp
  refine wpMixN_go rfl rfl (fun K' hK => ?_)
  go_simp
  refine hK _ _ ⟨(fun _ => h02.out), ?_⟩
  clear hK K'
  repeat (apply wpMixN_take rfl rfl h02.out; (focus (rintro W d0; go_simp; rfl)); intro K' hK; go_simp; refine hK _ _ ?_; clear hK K')
  refine wpMixN_go rfl rfl (fun K' hK => ?_)
  have c02 := FC.out
  have f02 := FF.out
  go_simp
  refine hK _ _ ⟨(fun h => by cases h), ?_⟩
  clear hK K'
  refine wpMixN_nil ?_
  go_wp2
  go_ret
  exact ⟨rfl, rfl⟩

theorem bytesRow_at (s : List UInt8) (cap j : Nat) (hj : j < s.length) : (bytesRow ⟨s.toArray⟩ cap)[j]? = some (byteV (s.getD j 0)) := by
  simp only [bytesRow]
  rw [Array.getElem?_append_left (by simpa using hj)]
  simp [hj, byteV, List.getD]
theorem bytesRow_size (s : List UInt8) (cap : Nat) : s.length ≤ (bytesRow ⟨s.toArray⟩ cap).size := by
  simp [bytesRow]

theorem rrot_any {w : World} {r : RF} {D : DS} (h : RAt w r D) (i bit : Int) :
    Calls Try.prog 43 #[.pointer (some ⟨r.p, 0, none⟩), .int .i64 i, .int .i64 bit] w fun e w' => e = .returned (.int .i64 (D.rotE i bit)) ∧ RAt w' r (D.rot i bit) ∧ Fr r.blks w w' := by
  have HI := ris_any h i
  cases hh : D.has i with
  | false =>
    have e1 : D.rotE i bit = 1 := by simp [DS.rotE, hh, eArg]
    have e2 : D.rot i bit = D := by simp [DS.rot, e1, eOK]
    rw [e1, e2]
    rw [hh] at HI
    exact (rrot_is r.p i bit HI).mono fun e w' ⟨he, hw⟩ => by subst hw; exact ⟨he, h, Fr.refl _ _⟩
  | true =>
    rw [hh] at HI
    by_cases hg : 0 ≤ bit ∧ bit < 512
    · obtain ⟨hb0, hb1⟩ := hg
      obtain ⟨k, rfl, hk⟩ := nat_of hh
      obtain ⟨b, rfl⟩ := Int.eq_ofNat_of_zero_le hb0
      have e1 : D.rotE k b = 0 := by simp [DS.rotE, hh, hb1, eOK]
      have e2 : D.rot k b = D.setSec k { D.sec k with text := turnBit (D.sec k).text b } := by simp [DS.rot, e1, eOK]
      rw [e1, e2]
      obtain ⟨c, x, cap, h⟩ := h
      have hok := sec_ok h.ok hk
      obtain ⟨s0, s1, s2, s3⟩ := h.sec hk
      have hq : b / 8 < 64 := by omega
      have hr : b % 8 < 8 := Nat.mod_lt _ (by omega)
      have hlen := hok.1
      have hcv := run_strBytes (P := Try.prog) 9 68 5 Try.underlying9 Try.underlying68 Try.underlying5 (D.sec k).text w
      rw [hlen] at hcv
      generalize hgt : (D.sec k).text = t at *
      have hqt : b / 8 < t.length := by omega
      -- the new block
      have hW1 : (convW 5 t w).heap[w.heap.size]? = some (.cells (bytesRow ⟨t.toArray⟩ (grownCap w t.length 0 5)) 5 ((bytesRow ⟨t.toArray⟩ (grownCap w t.length 0 5)).size, (bytesRow ⟨t.toArray⟩ (grownCap w t.length 0 5)).size + 1)) := heap_alloc_last w.drew _
      have hrow := bytesRow_at t (grownCap w t.length 0 5)
      have hrs := bytesRow_size t (grownCap w t.length 0 5)
      generalize bytesRow ⟨t.toArray⟩ (grownCap w t.length 0 5) = row at hW1 hrow hrs
      have hf1 : Fr [] w (convW 5 t w) := convW_fr [] _ _ _
      generalize convW 5 t w = W1 at hcv hW1 hf1
      have hu : W1.cell? ⟨w.heap.size, b / 8, none⟩ = some (.int .u8 (t.getD (b / 8) 0).toNat) := by rw [cell_blk hW1]; exact hrow _ hqt
      have hfz : W1.frozen? ⟨w.heap.size, b / 8, none⟩ = false := by
        unfold World.frozen?
        simp only [hW1]
        rw [decide_eq_false (by omega : ¬ row.size ≤ b / 8)]
        rfl
      have hsc := setCell_put W1 w.heap.size (b / 8) (.int .u8 (bits BinOp.xor IntKind.u8 ((t.getD (b / 8) 0).toNat : Int) (IntKind.u8.wrap (2 ^ (b % 8))))) _ _ _ hW1
      have hf2 : Fr [] w (W1.setCell ⟨w.heap.size, b / 8, none⟩ (.int .u8 (bits BinOp.xor IntKind.u8 ((t.getD (b / 8) 0).toNat : Int) (IntKind.u8.wrap (2 ^ (b % 8)))))).drew := by
        rw [hsc]
        exact (hf1.putObj (.inr (Nat.le_refl _)) _).drew
      have hR2 : RAt _ r D := RAt.fr ⟨c, x, cap, h⟩ hf2 (by simp)
      obtain ⟨c2, x2, cap2, h2⟩ := hR2
      have hrg : (W1.setCell ⟨w.heap.size, b / 8, none⟩ (.int .u8 (bits BinOp.xor IntKind.u8 ((t.getD (b / 8) 0).toNat : Int) (IntKind.u8.wrap (2 ^ (b % 8)))))).drew.drew.rangeAt w.heap.size 0 (byteVs (turnBit t b)) := by
        have hb2 : (W1.setCell ⟨w.heap.size, b / 8, none⟩ (.int .u8 (bits BinOp.xor IntKind.u8 ((t.getD (b / 8) 0).toNat : Int) (IntKind.u8.wrap (2 ^ (b % 8)))))).drew.drew.heap[w.heap.size]? = some (.cells (row.setIfInBounds (b / 8) (.int .u8 (bits BinOp.xor IntKind.u8 ((t.getD (b / 8) 0).toNat : Int) (IntKind.u8.wrap (2 ^ (b % 8)))))) 5 (row.size, row.size + 1)) := by
          show (W1.setCell _ _).heap[w.heap.size]? = _
          rw [hsc]
          exact heap_put_same _ _ _ (lt_of_heap hW1)
        refine range_of_block hb2 (fun j hj => ?_)
        rw [byteVs_length, turnBit_length] at hj
        rw [Nat.zero_add, Array.getElem?_setIfInBounds, rot_bits _ _ hr]
        by_cases e : b / 8 = j
        · subst e
          rw [if_pos rfl, if_pos (by omega)]
          simp only [turnBit, byteVs, List.getElem?_map]
          rw [List.getElem?_set_self hqt]
          rfl
        · rw [if_neg e, hrow j hj]
          simp only [turnBit, byteVs, List.getElem?_map]
          rw [List.getElem?_set_ne e]
          simp [List.getD, hj]
      generalize hW2 : (W1.setCell ⟨w.heap.size, b / 8, none⟩ (.int .u8 (bits BinOp.xor IntKind.u8 ((t.getD (b / 8) 0).toNat : Int) (IntKind.u8.wrap (2 ^ (b % 8)))))).drew = W2 at *
      have hsz2 := h2.size hk
      obtain ⟨z0, z1, z2, z3⟩ := h2.sec hk
      have ht' : (turnBit t b).length = 64 := by rw [turnBit_length]; exact hlen
      refine (rrot_core r.p r.b D.s.length cap k w.heap.size (convCap 5 t w) b (b / 8) t (turnBit t b) (t.getD (b / 8) 0).toNat HI h.c0 (by omega) (by omega) s0 hcv ?_ (by omega) (b % 8) ?_ (by omega) hu hu hfz hW2 ?_ hrg ht' _ z0 (free_blk h2.hb _)).mono ?_
      · rw [IntWalk.i64_in _ (by omega)]; omega
      · rw [Int.tmod_eq_emod_of_nonneg (by omega)]; omega
      · have := (hf2.block r.p (lt_of_heap h.hp) (by simp))
        show W2.cell? ⟨r.p, 0, none⟩ = _
        rw [World.cell?_of_block (w := w) this]
        exact h.c0
      · rintro e w' ⟨rfl, rfl⟩
        obtain ⟨p1, p2, p3⟩ := h2.put hk 0 (.string ⟨(turnBit t b).toArray⟩)
        refine ⟨rfl, RAt.drew (h2.setSec hk { D.sec k with text := turnBit t b } ⟨ht', hok.2⟩ p1 p2 (four ?_ ?_ ?_ ?_) (put_far _ _ _ _ (by omega))), ((hf2.mono (by simp)).trans p3).drew⟩
        all_goals rw [put_in _ _ _ _ _ hsz2 (by omega)]
        · rfl
        · exact h2.hc k hk 1 (by omega)
        · exact h2.hc k hk 2 (by omega)
        · exact h2.hc k hk 3 (by omega)
    · have e1 : D.rotE i bit = 1 := by
        unfold DS.rotE eOK eArg
        rw [if_neg]
        simp only [Bool.and_eq_true, decide_eq_true_eq]
        exact fun h => hg ⟨h.1.2, h.2⟩
      have e2 : D.rot i bit = D := by simp [DS.rot, e1, eOK]
      rw [e1, e2]
      exact (rrot_bit r.p i bit (by omega) HI).mono fun e w' ⟨he, hw⟩ => by subst hw; exact ⟨he, h, Fr.refl _ _⟩
end Go.Proofs.Ytoefpnmfeaimlaa
