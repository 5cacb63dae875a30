/- The contract of settle. -/
import Derived.Test.YtoefpnmfeaimlaaDiskRot
import Derived.Test.YtoefpnmfeaimlaaRegs
import Derived.Test.YtoefpnmfeaimlaaEq
import Derived.Laws.CopyRow
namespace Go.Proofs.Ytoefpnmfeaimlaa
open Go.RowKit Dk
attribute [local irreducible] Go.wpStill

set_option maxRecDepth 100000 in
set_option maxHeartbeats 400000 in
theorem settle_worn {w : World} (p mp mw k : Nat) (pk : Int) (t : List UInt8) (ht : t.length = 64) (h1 : w.cell? ⟨p, 1, none⟩ = some (.map (some mp))) (hpl : p < w.heap.size)
    (hlk : (Instr.lookup 64 (.map (some mp)) (.int .i64 k) false).run Try.prog w = .ok (.agg (byteVs t).toArray) w) (W2 : World)
    (hdel : (Builtin.delete_ #[64, 3] 0 #[.map (some mp), .int .i64 k]).run Try.prog (w.alloc (.cells (byteVs t).toArray 70)) = .ok (.tuple #[]) W2)
    (g2 : W2.cell? ⟨p, 2, none⟩ = some (.map (some mw)))
    (hw : (Instr.lookup 65 (.map (some mw)) (.int .i64 k) false).run Try.prog W2.drew = .ok (.bool true) W2.drew) :
    Calls Try.prog 37 #[.pointer (some ⟨p, 0, none⟩), .int .i64 k, .int .i64 pk] w fun e w' => e = .returned (.tuple #[]) ∧ W2.drew = w' := by
  obtain ⟨zb, hz, hzs, hz1⟩ := zeroB
  have hz2 : (byteVs t).toArray.size = 64 := by simp [byteVs_length, ht]
  have hzi := sizeB
  rw [← hz2] at hzi
  have HZ := Lib.hid hzi
  have HZ2 := Lib.hid (hzs.trans hz2.symm)
  clear hzi hzs hz2
  go_enter Try.func37, Try.ntmps37
  go_wp2_with (refine wpList_store_new rfl 70 _ _ rfl zb (byteVs t).toArray _ rfl rfl rfl HZ.out HZ2.out (oneCell_byteVs t) ?_)
  refine wp_region_still_lit (by kernel_rfl) (by kernel_rfl) ?_
  repeat still_step
  refine wpStill_nil ?_
  rw [World.drew_eq]
  go_wp2
  go_end0
  exact ⟨rfl, rfl⟩

set_option maxRecDepth 100000 in
set_option maxHeartbeats 400000 in
/-- As far as the test. -/
theorem settle_neq {w : World} (p bb mp mw n cap k : Nat) (pk : Int) (t u : List UInt8) (ht : t.length = 64) (hu : u.length = 64) (h1 : w.cell? ⟨p, 1, none⟩ = some (.map (some mp))) (hpl : p < w.heap.size)
    (hlk : (Instr.lookup 64 (.map (some mp)) (.int .i64 k) false).run Try.prog w = .ok (.agg (byteVs t).toArray) w) (W2 : World)
    (hdel : (Builtin.delete_ #[64, 3] 0 #[.map (some mp), .int .i64 k]).run Try.prog (w.alloc (.cells (byteVs t).toArray 70)) = .ok (.tuple #[]) W2)
    (g0 : W2.cell? ⟨p, 0, none⟩ = some (.slice (some ⟨bb, 0, none⟩) n cap)) (g2 : W2.cell? ⟨p, 2, none⟩ = some (.map (some mw))) (hk0 : (0 : Int) ≤ k) (hk : (k : Int) < n)
    (hw : (Instr.lookup 65 (.map (some mw)) (.int .i64 k) false).run Try.prog W2.drew = .ok (.bool false) W2.drew) (hr1 : Hid (W2.rangeAt w.heap.size 0 (byteVs t))) (hr2 : Hid (W2.rangeAt bb (k * 64) (byteVs u)))
    (m : Nat) (a : Int) (hmin : ∀ W : World, (Builtin.min_ #[3, 3] 3 #[.int .i64 pk, .int .i64 64]).run Try.prog W = .ok (.int .i64 a) W) (hmax : ∀ W : World, (Builtin.max_ #[3, 3] 3 #[.int .i64 0, .int .i64 a]).run Try.prog W = .ok (.int .i64 m) W) (hm0 : (0 : Int) ≤ m) (hm64 : (m : Int) ≤ 64) (W3 : World)
    (hcp : (Builtin.copy_ #[68, 68] 3 #[.slice (some ⟨bb, k * 64, none⟩) m 64, .slice (some ⟨w.heap.size, 0, none⟩) 64 64]).run Try.prog W2.drew.drew = .ok (.int .i64 m) W3) :
    Calls Try.prog 37 #[.pointer (some ⟨p, 0, none⟩), .int .i64 k, .int .i64 pk] w fun e w' => e = .returned (.tuple #[]) ∧ ((t = u ∧ W2.drew = w') ∨ W3 = w') := by
  obtain ⟨zb, hz, hzs, hz1⟩ := zeroB
  have hz2 : (byteVs t).toArray.size = 64 := by simp [byteVs_length, ht]
  have hzi := sizeB
  rw [← hz2] at hzi
  have HZ := Lib.hid hzi
  have HZ2 := Lib.hid (hzs.trans hz2.symm)
  have hi1 : (Try.prog.info? 70).map (·.size) = some (byteVs t).length := by rw [byteVs_length, ht]; exact sizeB
  have hi2 : (Try.prog.info? 70).map (·.size) = some (byteVs u).length := by rw [byteVs_length, hu]; exact sizeB
  have HL1 := Lib.hid (fun hr => run_loadAt_mid (P := Try.prog) W2.drew w.heap.size 0 70 (byteVs t) _ hr Try.underlying70 rfl hi1)
  have HL2 := Lib.hid (fun hr => run_loadAt_mid (P := Try.prog) W2.drew bb (k * 64) 70 (byteVs u) _ hr Try.underlying70 rfl hi2)
  obtain ⟨r, hneq, hrr⟩ := run_neq_bytes (P := Try.prog) 70 5 64 Try.underlying70 Try.underlying5 (by kernel_rfl) t u ht hu
  have HN := Lib.hid hneq
  have HR := Lib.hid hrr
  clear hzi hzs hz2 hi1 hi2 hneq hrr
  go_enter Try.func37, Try.ntmps37
  go_wp2_with (refine wpList_store_new rfl 70 _ _ rfl zb (byteVs t).toArray _ rfl rfl rfl HZ.out HZ2.out (oneCell_byteVs t) ?_)
  refine wp_region_still_lit (by kernel_rfl) (by kernel_rfl) ?_
  repeat still_step
  refine wpStill_run rfl (exec_load (p := .pointer (some ⟨w.heap.size, 0, none⟩)) rfl rfl (HL1.out hr1.out)) ?_
  repeat still_step
  refine wpStill_run rfl (exec_load (p := .pointer (some ⟨bb, k * 64, none⟩)) rfl rfl (HL2.out hr2.out)) ?_
  refine wpStill_run rfl (exec_binOp _ (u := aggV t) (v := aggV u) rfl rfl rfl (run_eqGuard_agg _ _ _ _ _ _ _ (by kernel_rfl)) (HN.out _)) ?_
  repeat still_step
  refine wpStill_nil ?_
  have e0 : W2.drew.cell? ⟨p, 0, none⟩ = some (.slice (some ⟨bb, 0, none⟩) n cap) := g0
  rw [World.drew_eq]
  clear g0 g2 hw HL1 HL2 hr1 hr2
  generalize hV : W2.drew = V at *
  go_wp2
  · refine wp_region_still_tail 11 (by kernel_rfl) (by kernel_rfl) ?_
    simp only [List.take_succ_cons, List.take_zero, List.drop_succ_cons, List.drop_zero]
    repeat still_step
    refine wpStill_nil ?_
    rw [World.drew_eq]
    go_wp2
    go_end0
    exact ⟨rfl, .inr rfl⟩
  · go_end0
    rename_i hr0
    exact ⟨rfl, .inl ⟨HR.out.1 hr0, hV⟩⟩
end Go.Proofs.Ytoefpnmfeaimlaa
