/- The contract of settle of the disk of the specification. -/
import Derived.Test.YtoefpnmfeaimlaaRef2
import Derived.RowKit3
namespace Go.Proofs.Ytoefpnmfeaimlaa
open Go.RowKit Dk

attribute [local irreducible] wpMixN

set_option maxHeartbeats 1000000 in
set_option maxRecDepth 100000 in
theorem rsettle_worn {w : World} (p b k n cap : Nat) (pk : Int) (t u : List UInt8) (h0 : w.cell? ⟨p, 0, none⟩ = some (.slice (some ⟨b, 0, none⟩) n cap)) (hk : (k : Int) < n)
    (c0 : w.cell? ⟨b, k * 4, none⟩ = some (.string ⟨t.toArray⟩)) (c1 : w.cell? ⟨b, k * 4 + 1, none⟩ = some (.string ⟨u.toArray⟩)) (c2 : w.cell? ⟨b, k * 4 + 2, none⟩ = some (.bool true)) (c3 : w.cell? ⟨b, k * 4 + 3, none⟩ = some (.bool true))
    (f0 : w.frozen? ⟨b, k * 4, none⟩ = false) (f1 : w.frozen? ⟨b, k * 4 + 1, none⟩ = false) (f2 : w.frozen? ⟨b, k * 4 + 2, none⟩ = false) (f3 : w.frozen? ⟨b, k * 4 + 3, none⟩ = false) :
    Calls Try.prog 60 #[.pointer (some ⟨p, 0, none⟩), .int .i64 k, .int .i64 pk] w fun e w' => e = .returned (.tuple #[]) ∧ ∃ o : Obj, w' = ((((((w.alloc o).setCell ⟨b, k * 4, none⟩ (.string ⟨t.toArray⟩)).setCell ⟨b, k * 4 + 1, none⟩ (.string ⟨#[]⟩)).setCell ⟨b, k * 4 + 2, none⟩ (.bool false)).setCell ⟨b, k * 4 + 3, none⟩ (.bool true))).drew := by
  have keep : ∀ (a : Addr) (v : Value) (o : Obj), w.cell? a = some v → (w.alloc o).cell? a = some v := fun a v o h => by
    rw [← h]; exact World.cell?_of_block (w := w) (heap_alloc_lt w o _ (lt_of_cell h))
  have m1 : ∀ o : Obj, (w.alloc o).cell? ⟨p, 0, none⟩ = _ := fun o => keep _ _ o h0
  have m3 : ∀ o : Obj, (w.alloc o).cell? ⟨b, k * 4, none⟩ = _ := fun o => keep _ _ o c0
  have m4 : ∀ o : Obj, (w.alloc o).cell? ⟨b, k * 4 + 1, none⟩ = _ := fun o => keep _ _ o c1
  have m5 : ∀ o : Obj, (w.alloc o).cell? ⟨b, k * 4 + 2, none⟩ = _ := fun o => keep _ _ o c2
  have m6 : ∀ o : Obj, (w.alloc o).cell? ⟨b, k * 4 + 3, none⟩ = _ := fun o => keep _ _ o c3
  have m7 : ∀ cs : Array Value, (w.alloc (.cells cs 52)).frozen? ⟨b, k * 4, none⟩ = false := fun cs => (frozen?_alloc_cells w cs _ _).trans f0
  have m8 : ∀ cs : Array Value, (w.alloc (.cells cs 52)).frozen? ⟨b, k * 4 + 1, none⟩ = false := fun cs => (frozen?_alloc_cells w cs _ _).trans f1
  have m9 : ∀ cs : Array Value, (w.alloc (.cells cs 52)).frozen? ⟨b, k * 4 + 2, none⟩ = false := fun cs => (frozen?_alloc_cells w cs _ _).trans f2
  have m10 : ∀ cs : Array Value, (w.alloc (.cells cs 52)).frozen? ⟨b, k * 4 + 3, none⟩ = false := fun cs => (frozen?_alloc_cells w cs _ _).trans f3
  clear keep
  go_enter Try.func60, Try.ntmps60
  go_wp2
  all_goals
    refine wp_region_mixesN (fun W => W.cell? ⟨p, 0, none⟩ = some (.slice (some ⟨b, 0, none⟩) n cap) ∧ W.cell? ⟨w.heap.size, 0, none⟩ = some (.string ⟨t.toArray⟩) ∧ W.cell? ⟨w.heap.size, 1, none⟩ = some (.string ⟨#[]⟩) ∧ W.cell? ⟨w.heap.size, 2, none⟩ = some (.bool false) ∧ W.cell? ⟨w.heap.size, 3, none⟩ = some (.bool true))
      [7] [(true, 0), (true, 1), (true, 2), (true, 3), (true, 4), (true, 5), (true, 6), (false, 7)] (by kernel_rfl) (by kernel_rfl) ?_
    have hS : ∀ W : World, W = (w.alloc (.cells #[.string ⟨t.toArray⟩, .string ⟨#[]⟩, .bool false, .bool true] 52)).drew → W.cell? ⟨p, 0, none⟩ = some (.slice (some ⟨b, 0, none⟩) n cap) ∧ W.cell? ⟨w.heap.size, 0, none⟩ = some (.string ⟨t.toArray⟩) ∧ W.cell? ⟨w.heap.size, 1, none⟩ = some (.string ⟨#[]⟩) ∧ W.cell? ⟨w.heap.size, 2, none⟩ = some (.bool false) ∧ W.cell? ⟨w.heap.size, 3, none⟩ = some (.bool true) := by
      rintro W rfl
      refine ⟨m1 _, ?_, ?_, ?_, ?_⟩ <;> exact cell_blk (heap_alloc_last w _) _
    have HS := Lib.hid (hS _ rfl)
    clear hS
    repeat (apply wpMixN_take rfl rfl HS.out; (focus (rintro W ⟨d0, d1, d2, d3, d4⟩; go_simp; rfl)); intro K' hK; go_simp; refine hK _ _ ?_; clear hK K')
    refine wpMixN_go rfl rfl (fun K' hK => ?_)
    go_simp
    refine hK _ _ ⟨(fun h => by cases h), ?_⟩
    clear hK K'
    refine wpMixN_nil ?_
    go_wp2
    go_end0
    exact ⟨rfl, _, rfl⟩

theorem bytes_mix (t u : List UInt8) (q : Nat) (ht : t.length = 64) : (⟨u.toArray⟩ : ByteArray).extract 0 q ++ (⟨t.toArray⟩ : ByteArray).extract q 64 = ⟨(u.take q ++ t.drop q).toArray⟩ := by
  apply ByteArray.ext
  apply Array.toList_inj.1
  simp [← ht]
  exact List.take_of_length_le (by simp)
theorem bytes_all (t : List UInt8) (ht : t.length = 64) : (⟨t.toArray⟩ : ByteArray).extract 0 64 = ⟨t.toArray⟩ := by
  apply ByteArray.ext
  apply Array.toList_inj.1
  simp [← ht]
theorem bytes_end (t u : List UInt8) (ht : t.length = 64) (hu : u.length = 64) : (⟨u.toArray⟩ : ByteArray).extract 0 64 = ⟨(u.take 64 ++ t.drop 64).toArray⟩ := by
  rw [bytes_all u hu, List.take_of_length_le (by omega), List.drop_of_length_le (by omega), List.append_nil]
theorem bytes_zero (t u : List UInt8) (ht : t.length = 64) : (⟨t.toArray⟩ : ByteArray).extract 0 64 = ⟨(u.take 0 ++ t.drop 0).toArray⟩ := by
  rw [bytes_all t ht]
  rfl
set_option maxHeartbeats 1000000 in
set_option maxRecDepth 100000 in
theorem rsettle_free {w : World} (p b k n cap : Nat) (pk : Int) (t u : List UInt8) (q : Nat) (hq : (pk ≤ 0 ∧ (q : Int) = 0) ∨ (pk = q ∧ (0 : Int) < q ∧ (q : Int) ≤ 64) ∨ (64 < pk ∧ (q : Int) = 64)) (ht : t.length = 64) (hu : u.length = 64) (x : List UInt8) (hx : Hid (u.take q ++ t.drop q = x)) (h0 : w.cell? ⟨p, 0, none⟩ = some (.slice (some ⟨b, 0, none⟩) n cap)) (hk : (k : Int) < n)
    (c0 : w.cell? ⟨b, k * 4, none⟩ = some (.string ⟨t.toArray⟩)) (c1 : w.cell? ⟨b, k * 4 + 1, none⟩ = some (.string ⟨u.toArray⟩)) (c2 : w.cell? ⟨b, k * 4 + 2, none⟩ = some (.bool true)) (c3 : w.cell? ⟨b, k * 4 + 3, none⟩ = some (.bool false))
    (f0 : w.frozen? ⟨b, k * 4, none⟩ = false) (f1 : w.frozen? ⟨b, k * 4 + 1, none⟩ = false) (f2 : w.frozen? ⟨b, k * 4 + 2, none⟩ = false) (f3 : w.frozen? ⟨b, k * 4 + 3, none⟩ = false) :
    Calls Try.prog 60 #[.pointer (some ⟨p, 0, none⟩), .int .i64 k, .int .i64 pk] w fun e w' => e = .returned (.tuple #[]) ∧ ∃ o : Obj, w' = ((((((w.alloc o).setCell ⟨b, k * 4, none⟩ (.string ⟨x.toArray⟩)).setCell ⟨b, k * 4 + 1, none⟩ (.string ⟨#[]⟩)).setCell ⟨b, k * 4 + 2, none⟩ (.bool false)).setCell ⟨b, k * 4 + 3, none⟩ (.bool false))).drew.drew := by
  have keep : ∀ (a : Addr) (v : Value) (o : Obj), w.cell? a = some v → (w.alloc o).cell? a = some v := fun a v o h => by
    rw [← h]; exact World.cell?_of_block (w := w) (heap_alloc_lt w o _ (lt_of_cell h))
  have m1 : ∀ o : Obj, (w.alloc o).cell? ⟨p, 0, none⟩ = _ := fun o => keep _ _ o h0
  have m3 : ∀ o : Obj, (w.alloc o).cell? ⟨b, k * 4, none⟩ = _ := fun o => keep _ _ o c0
  have m4 : ∀ o : Obj, (w.alloc o).cell? ⟨b, k * 4 + 1, none⟩ = _ := fun o => keep _ _ o c1
  have m5 : ∀ o : Obj, (w.alloc o).cell? ⟨b, k * 4 + 2, none⟩ = _ := fun o => keep _ _ o c2
  have m6 : ∀ o : Obj, (w.alloc o).cell? ⟨b, k * 4 + 3, none⟩ = _ := fun o => keep _ _ o c3
  have m7 : ∀ cs : Array Value, (w.alloc (.cells cs 52)).frozen? ⟨b, k * 4, none⟩ = false := fun cs => (frozen?_alloc_cells w cs _ _).trans f0
  have m8 : ∀ cs : Array Value, (w.alloc (.cells cs 52)).frozen? ⟨b, k * 4 + 1, none⟩ = false := fun cs => (frozen?_alloc_cells w cs _ _).trans f1
  have m9 : ∀ cs : Array Value, (w.alloc (.cells cs 52)).frozen? ⟨b, k * 4 + 2, none⟩ = false := fun cs => (frozen?_alloc_cells w cs _ _).trans f2
  have m10 : ∀ cs : Array Value, (w.alloc (.cells cs 52)).frozen? ⟨b, k * 4 + 3, none⟩ = false := fun cs => (frozen?_alloc_cells w cs _ _).trans f3
  clear keep
  have hov : ¬ 9223372036854775807 < min q 64 + (64 - q) := by omega
  rcases hq with ⟨hq1, hq2⟩ | ⟨rfl, hq2, hq3⟩ | ⟨hq1, hq2⟩
  case' inl => obtain rfl : q = 0 := by omega
  case' inr.inr => obtain rfl : q = 64 := by omega
  case inl =>
    go_enter Try.func60, Try.ntmps60
    go_wp2
    refine wp_region_mixesN (fun W => W.cell? ⟨w.heap.size, 0, none⟩ = some (.string ⟨t.toArray⟩) ∧ W.cell? ⟨w.heap.size, 1, none⟩ = some (.string ⟨u.toArray⟩))
      [10] [(true, 0), (true, 1), (true, 2), (true, 3), (true, 4), (true, 5), (true, 6), (true, 7), (true, 8), (true, 9), (false, 10)] (by kernel_rfl) (by kernel_rfl) ?_
    have hS : ∀ W : World, W = (w.alloc (.cells #[.string ⟨t.toArray⟩, .string ⟨u.toArray⟩, .bool true, .bool false] 52)).drew → W.cell? ⟨w.heap.size, 0, none⟩ = some (.string ⟨t.toArray⟩) ∧ W.cell? ⟨w.heap.size, 1, none⟩ = some (.string ⟨u.toArray⟩) := by
      rintro W rfl
      refine ⟨?_, ?_⟩ <;> exact cell_blk (heap_alloc_last w _) _
    have HS := Lib.hid (hS _ rfl)
    clear hS
    iterate 8 (apply wpMixN_take rfl rfl HS.out; (focus (rintro W ⟨d0, d1⟩; go_simp; rfl)); intro K' hK; go_simp; refine hK _ _ ?_; clear hK K')
    apply wpMixN_take (v := .string ⟨x.toArray⟩) rfl rfl HS.out
    focus (rintro W ⟨d0, d1⟩; go_simp; rw [← hx.out]; first | exact bytes_mix t u _ ht | exact bytes_zero t u ht | exact bytes_end t u ht hu)
    intro K' hK; go_simp; refine hK _ _ ?_; clear hK K'
    apply wpMixN_take rfl rfl HS.out
    focus (rintro W ⟨d0, d1⟩; go_simp; rfl)
    intro K' hK; go_simp; refine hK _ _ ?_; clear hK K'
    refine wpMixN_go rfl rfl (fun K' hK => ?_)
    go_simp
    refine hK _ _ ⟨(fun h => by cases h), ?_⟩
    clear hK K' HS
    refine wpMixN_nil ?_
    go_wp2
    refine wp_region_mixesN (fun W => W.cell? ⟨p, 0, none⟩ = some (.slice (some ⟨b, 0, none⟩) n cap) ∧ W.cell? ⟨w.heap.size, 0, none⟩ = some (.string ⟨x.toArray⟩) ∧ W.cell? ⟨w.heap.size, 1, none⟩ = some (.string ⟨#[]⟩) ∧ W.cell? ⟨w.heap.size, 2, none⟩ = some (.bool false) ∧ W.cell? ⟨w.heap.size, 3, none⟩ = some (.bool false))
      [7] [(true, 0), (true, 1), (true, 2), (true, 3), (true, 4), (true, 5), (true, 6), (false, 7)] (by kernel_rfl) (by kernel_rfl) ?_
    have hS : ∀ W : World, W = (w.alloc (.cells #[.string ⟨x.toArray⟩, .string ⟨#[]⟩, .bool false, .bool false] 52)).drew → W.cell? ⟨p, 0, none⟩ = some (.slice (some ⟨b, 0, none⟩) n cap) ∧ W.cell? ⟨w.heap.size, 0, none⟩ = some (.string ⟨x.toArray⟩) ∧ W.cell? ⟨w.heap.size, 1, none⟩ = some (.string ⟨#[]⟩) ∧ W.cell? ⟨w.heap.size, 2, none⟩ = some (.bool false) ∧ W.cell? ⟨w.heap.size, 3, none⟩ = some (.bool false) := by
      rintro W rfl
      refine ⟨m1 _, ?_, ?_, ?_, ?_⟩ <;> exact cell_blk (heap_alloc_last w _) _
    have HS := Lib.hid (hS _ rfl)
    clear hS
    repeat (apply wpMixN_take rfl rfl HS.out; (focus (rintro W ⟨d0, d1, d2, d3, d4⟩; go_simp; rfl)); intro K' hK; go_simp; refine hK _ _ ?_; clear hK K')
    refine wpMixN_go rfl rfl (fun K' hK => ?_)
    go_simp
    refine hK _ _ ⟨(fun h => by cases h), ?_⟩
    clear hK K'
    refine wpMixN_nil ?_
    go_wp2
    go_end0
    exact ⟨rfl, _, rfl⟩

  case inr.inl =>
    go_enter Try.func60, Try.ntmps60
    go_wp2
    refine wp_region_mixesN (fun W => W.cell? ⟨w.heap.size, 0, none⟩ = some (.string ⟨t.toArray⟩) ∧ W.cell? ⟨w.heap.size, 1, none⟩ = some (.string ⟨u.toArray⟩))
      [10] [(true, 0), (true, 1), (true, 2), (true, 3), (true, 4), (true, 5), (true, 6), (true, 7), (true, 8), (true, 9), (false, 10)] (by kernel_rfl) (by kernel_rfl) ?_
    have hS : ∀ W : World, W = (w.alloc (.cells #[.string ⟨t.toArray⟩, .string ⟨u.toArray⟩, .bool true, .bool false] 52)).drew → W.cell? ⟨w.heap.size, 0, none⟩ = some (.string ⟨t.toArray⟩) ∧ W.cell? ⟨w.heap.size, 1, none⟩ = some (.string ⟨u.toArray⟩) := by
      rintro W rfl
      refine ⟨?_, ?_⟩ <;> exact cell_blk (heap_alloc_last w _) _
    have HS := Lib.hid (hS _ rfl)
    clear hS
    iterate 8 (apply wpMixN_take rfl rfl HS.out; (focus (rintro W ⟨d0, d1⟩; go_simp; rfl)); intro K' hK; go_simp; refine hK _ _ ?_; clear hK K')
    apply wpMixN_take (v := .string ⟨x.toArray⟩) rfl rfl HS.out
    focus (rintro W ⟨d0, d1⟩; go_simp; rw [← hx.out]; first | exact bytes_mix t u _ ht | exact bytes_zero t u ht | exact bytes_end t u ht hu)
    intro K' hK; go_simp; refine hK _ _ ?_; clear hK K'
    apply wpMixN_take rfl rfl HS.out
    focus (rintro W ⟨d0, d1⟩; go_simp; rfl)
    intro K' hK; go_simp; refine hK _ _ ?_; clear hK K'
    refine wpMixN_go rfl rfl (fun K' hK => ?_)
    go_simp
    refine hK _ _ ⟨(fun h => by cases h), ?_⟩
    clear hK K' HS
    refine wpMixN_nil ?_
    go_wp2
    refine wp_region_mixesN (fun W => W.cell? ⟨p, 0, none⟩ = some (.slice (some ⟨b, 0, none⟩) n cap) ∧ W.cell? ⟨w.heap.size, 0, none⟩ = some (.string ⟨x.toArray⟩) ∧ W.cell? ⟨w.heap.size, 1, none⟩ = some (.string ⟨#[]⟩) ∧ W.cell? ⟨w.heap.size, 2, none⟩ = some (.bool false) ∧ W.cell? ⟨w.heap.size, 3, none⟩ = some (.bool false))
      [7] [(true, 0), (true, 1), (true, 2), (true, 3), (true, 4), (true, 5), (true, 6), (false, 7)] (by kernel_rfl) (by kernel_rfl) ?_
    have hS : ∀ W : World, W = (w.alloc (.cells #[.string ⟨x.toArray⟩, .string ⟨#[]⟩, .bool false, .bool false] 52)).drew → W.cell? ⟨p, 0, none⟩ = some (.slice (some ⟨b, 0, none⟩) n cap) ∧ W.cell? ⟨w.heap.size, 0, none⟩ = some (.string ⟨x.toArray⟩) ∧ W.cell? ⟨w.heap.size, 1, none⟩ = some (.string ⟨#[]⟩) ∧ W.cell? ⟨w.heap.size, 2, none⟩ = some (.bool false) ∧ W.cell? ⟨w.heap.size, 3, none⟩ = some (.bool false) := by
      rintro W rfl
      refine ⟨m1 _, ?_, ?_, ?_, ?_⟩ <;> exact cell_blk (heap_alloc_last w _) _
    have HS := Lib.hid (hS _ rfl)
    clear hS
    repeat (apply wpMixN_take rfl rfl HS.out; (focus (rintro W ⟨d0, d1, d2, d3, d4⟩; go_simp; rfl)); intro K' hK; go_simp; refine hK _ _ ?_; clear hK K')
    refine wpMixN_go rfl rfl (fun K' hK => ?_)
    go_simp
    refine hK _ _ ⟨(fun h => by cases h), ?_⟩
    clear hK K'
    refine wpMixN_nil ?_
    go_wp2
    go_end0
    exact ⟨rfl, _, rfl⟩

  case inr.inr =>
    go_enter Try.func60, Try.ntmps60
    go_wp2
    refine wp_region_mixesN (fun W => W.cell? ⟨w.heap.size, 0, none⟩ = some (.string ⟨t.toArray⟩) ∧ W.cell? ⟨w.heap.size, 1, none⟩ = some (.string ⟨u.toArray⟩))
      [10] [(true, 0), (true, 1), (true, 2), (true, 3), (true, 4), (true, 5), (true, 6), (true, 7), (true, 8), (true, 9), (false, 10)] (by kernel_rfl) (by kernel_rfl) ?_
    have hS : ∀ W : World, W = (w.alloc (.cells #[.string ⟨t.toArray⟩, .string ⟨u.toArray⟩, .bool true, .bool false] 52)).drew → W.cell? ⟨w.heap.size, 0, none⟩ = some (.string ⟨t.toArray⟩) ∧ W.cell? ⟨w.heap.size, 1, none⟩ = some (.string ⟨u.toArray⟩) := by
      rintro W rfl
      refine ⟨?_, ?_⟩ <;> exact cell_blk (heap_alloc_last w _) _
    have HS := Lib.hid (hS _ rfl)
    clear hS
    iterate 8 (apply wpMixN_take rfl rfl HS.out; (focus (rintro W ⟨d0, d1⟩; go_simp; rfl)); intro K' hK; go_simp; refine hK _ _ ?_; clear hK K')
    apply wpMixN_take (v := .string ⟨x.toArray⟩) rfl rfl HS.out
    focus (rintro W ⟨d0, d1⟩; go_simp; rw [← hx.out]; first | exact bytes_mix t u _ ht | exact bytes_zero t u ht | exact bytes_end t u ht hu)
    intro K' hK; go_simp; refine hK _ _ ?_; clear hK K'
    apply wpMixN_take rfl rfl HS.out
    focus (rintro W ⟨d0, d1⟩; go_simp; rfl)
    intro K' hK; go_simp; refine hK _ _ ?_; clear hK K'
    refine wpMixN_go rfl rfl (fun K' hK => ?_)
    go_simp
    refine hK _ _ ⟨(fun h => by cases h), ?_⟩
    clear hK K' HS
    refine wpMixN_nil ?_
    go_wp2
    refine wp_region_mixesN (fun W => W.cell? ⟨p, 0, none⟩ = some (.slice (some ⟨b, 0, none⟩) n cap) ∧ W.cell? ⟨w.heap.size, 0, none⟩ = some (.string ⟨x.toArray⟩) ∧ W.cell? ⟨w.heap.size, 1, none⟩ = some (.string ⟨#[]⟩) ∧ W.cell? ⟨w.heap.size, 2, none⟩ = some (.bool false) ∧ W.cell? ⟨w.heap.size, 3, none⟩ = some (.bool false))
      [7] [(true, 0), (true, 1), (true, 2), (true, 3), (true, 4), (true, 5), (true, 6), (false, 7)] (by kernel_rfl) (by kernel_rfl) ?_
    have hS : ∀ W : World, W = (w.alloc (.cells #[.string ⟨x.toArray⟩, .string ⟨#[]⟩, .bool false, .bool false] 52)).drew → W.cell? ⟨p, 0, none⟩ = some (.slice (some ⟨b, 0, none⟩) n cap) ∧ W.cell? ⟨w.heap.size, 0, none⟩ = some (.string ⟨x.toArray⟩) ∧ W.cell? ⟨w.heap.size, 1, none⟩ = some (.string ⟨#[]⟩) ∧ W.cell? ⟨w.heap.size, 2, none⟩ = some (.bool false) ∧ W.cell? ⟨w.heap.size, 3, none⟩ = some (.bool false) := by
      rintro W rfl
      refine ⟨m1 _, ?_, ?_, ?_, ?_⟩ <;> exact cell_blk (heap_alloc_last w _) _
    have HS := Lib.hid (hS _ rfl)
    clear hS
    repeat (apply wpMixN_take rfl rfl HS.out; (focus (rintro W ⟨d0, d1, d2, d3, d4⟩; go_simp; rfl)); intro K' hK; go_simp; refine hK _ _ ?_; clear hK K')
    refine wpMixN_go rfl rfl (fun K' hK => ?_)
    go_simp
    refine hK _ _ ⟨(fun h => by cases h), ?_⟩
    clear hK K'
    refine wpMixN_nil ?_
    go_wp2
    go_end0
    exact ⟨rfl, _, rfl⟩

end Go.Proofs.Ytoefpnmfeaimlaa
