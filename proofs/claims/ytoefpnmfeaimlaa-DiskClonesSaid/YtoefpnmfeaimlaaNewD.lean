/- The contract of New. -/
import Derived.Test.YtoefpnmfeaimlaaDisk2
import Derived.Carry
namespace Go.Proofs.Ytoefpnmfeaimlaa
open Go.RowKit Dk

theorem new_arg {w : World} (n : Int) (hn : n < 1 ∨ 4096 < n) :
    Calls Try.prog 9 #[.int .i64 n] w fun e w' => e = .returned (.tuple #[.pointer none, .int .i64 1]) ∧ w = w' := by
  rcases hn with h | h
  · go_enter Try.func9, Try.ntmps9
    go_wp2
    go_ret2
    exact ⟨rfl, rfl⟩
  · have h' : 1 ≤ n := by omega
    go_enter Try.func9, Try.ntmps9
    go_wp2
    go_ret2
    exact ⟨rfl, rfl⟩
set_option maxRecDepth 100000 in
theorem new_core {w : World} (n : Nat) (hn : (1 : Int) ≤ n) (hn2 : (n : Int) ≤ 4096) (zc : Array Value) (hmk : (Instr.makeSlice 63 (.int .i64 n) (.int .i64 n)).run Try.prog w = .ok (.slice (some ⟨w.heap.size, 0, none⟩) n n) (w.alloc (.cells zc 70))) :
    Calls Try.prog 9 #[.int .i64 n] w fun e w' => e = .returned (.tuple #[.pointer (some ⟨w.heap.size + 3, 0, none⟩), .int .i64 0]) ∧
      w' = (((w.alloc (.cells zc 70)).alloc (.map #[] 0)).alloc (.map #[] 0)).alloc (.cells #[.slice (some ⟨w.heap.size, 0, none⟩) n n, .map (some (w.heap.size + 1)), .map (some (w.heap.size + 2)), .bool false, .int .i64 (-1)] 67) := by
  have hmm := @run_makeMap Try.prog
  go_enter Try.func9, Try.ntmps9
  go_wp2
  go_ret2
  exact ⟨rfl, rfl⟩

theorem infoB : (Try.prog.info? 70).map (fun i => (i.zero, i.size, i.bytes)) = some (some (.agg (byteVs zero64).toArray), 64, 64) := by kernel_rfl
theorem byteVs_zero (j : Nat) (hj : j < 64) : (byteVs zero64)[j]? = some (.int .u8 0) := by
  unfold byteVs zero64
  rw [List.map_replicate, List.getElem?_replicate, if_pos hj]
  rfl
theorem made_zero (n j : Nat) (hj : j < n * 64) : (madeCells (byteVs zero64).toArray (n * 64))[j]? = some (.int .u8 0) := by
  have h64 : (byteVs zero64).length = 64 := by simp [byteVs, zero64]
  have hm : j % 64 < 64 := Nat.mod_lt _ (by omega)
  have h := byteVs_zero (j % 64) hm
  simp only [madeCells, Array.getElem?_map]
  rw [Array.getElem?_eq_getElem (by simpa using hj)]
  simp only [Array.getElem_range, Option.map_some, List.size_toArray, h64]
  congr 1
  rw [getElem!_pos _ _ (by simp [h64, hm])]
  rw [List.getElem?_eq_getElem (by rw [h64]; exact hm)] at h
  simpa using h
theorem sec_new (n i : Nat) : (DS.new n).sec i = fresh := by
  unfold DS.new DS.sec
  by_cases h : i < n
  · simp [List.getD, h]
  · simp [List.getD, h]

theorem new_any {w : World} (n : Nat) (hn : 1 ≤ n) (hn2 : n ≤ 4096) :
    Calls Try.prog 9 #[.int .i64 n] w fun e w' => ∃ f : DF, e = .returned (.tuple #[.pointer (some ⟨f.p, 0, none⟩), .int .i64 0]) ∧ DiskAt w' f (DS.new n) ∧ Below w.heap.size w w' ∧ ∀ b ∈ f.blks, w.heap.size ≤ b := by
  cases hi : Try.prog.info? 70 with
  | none => have := infoB; rw [hi] at this; cases this
  | some i =>
    have hib := infoB
    rw [hi] at hib
    simp only [Option.map_some, Option.some.injEq, Prod.mk.injEq] at hib
    obtain ⟨hz, hsz, hby⟩ := hib
    have hmk := run_makeSlice (P := Try.prog) w 63 70 i _ Try.underlying63 hi hz .i64 .i64 n n (by omega) (Int.le_refl _) (by rw [hsz]; omega) (by rw [hby]; omega) (by omega)
    rw [hsz] at hmk
    simp only [Int.toNat_natCast] at hmk
    have hzc := made_zero n
    have e0 : (Value.agg (byteVs zero64).toArray).cells = (byteVs zero64).toArray := rfl
    rw [e0] at hmk
    generalize madeCells (byteVs zero64).toArray (n * 64) = zc at hmk hzc
    refine (new_core n (by omega) (by omega) _ hmk).mono ?_
    rintro e w' ⟨rfl, rfl⟩
    refine ⟨⟨w.heap.size + 3, w.heap.size, w.heap.size + 1, w.heap.size + 2⟩, rfl, ?_, ?_, ?_⟩
    · have hl : (DS.new n).s.length = n := by simp [DS.new]
      refine ⟨zc, -1, [], [], n, ?_⟩
      refine { hp := ?_, hx := (by show (-1 : Int) < 0; omega), hx2 := by omega, hb := ?_, hc := ?_, hm := ?_, hpend := ?_, hw := ?_, hworn := ?_, ok := ?_, one := by rw [hl]; exact hn, few := by rw [hl]; exact hn2, pb := ?_, pm := ?_, pw := ?_, bm := ?_, bw := ?_, mw := ?_ }
      · rw [hl]
        exact heap_alloc_at _ _ _ (by simp)
      · rw [heap_alloc_lt _ _ _ (by simp; omega), heap_alloc_lt _ _ _ (by simp; omega), heap_alloc_lt _ _ _ (by simp)]
        exact heap_alloc_last _ _
      · intro i hi j hj
        rw [hl] at hi
        rw [sec_new, hzc (i * 64 + j) (by omega)]
        exact (byteVs_zero j hj).symm
      · refine ⟨#[], 0, ?_, rfl, MapKept.stamped_empty 0⟩
        rw [heap_alloc_lt _ _ _ (by simp), heap_alloc_lt _ _ _ (by simp)]
        exact heap_alloc_at _ _ _ (by simp)
      · intro i
        rw [sec_new]
        simp [getM, fresh]
      · refine ⟨#[], 0, ?_, rfl, MapKept.stamped_empty 0⟩
        rw [heap_alloc_lt _ _ _ (by simp)]
        exact heap_alloc_at _ _ _ (by simp)
      · intro i
        rw [sec_new]
        simp [getM, fresh]
      · intro x hx
        have : x = fresh := (List.mem_replicate.1 hx).2
        subst this
        exact ⟨by simp [fresh, zero64], fun t h => by cases h⟩
      all_goals simp only [ne_eq]; omega
    · exact ((((Below.refl _ w).alloc (Nat.le_refl _) _).alloc (by simp) _).alloc (by simp; omega) _).alloc (by simp; omega) _
    · intro b hb
      simp [DF.blks] at hb
      omega
end Go.Proofs.Ytoefpnmfeaimlaa
