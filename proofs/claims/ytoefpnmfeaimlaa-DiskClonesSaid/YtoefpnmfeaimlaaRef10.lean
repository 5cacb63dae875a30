/- The contract of New of the specification. -/
import Derived.Test.YtoefpnmfeaimlaaRef9
import Derived.Test.YtoefpnmfeaimlaaLaw0
import Derived.Test.YtoefpnmfeaimlaaNewD
import Derived.Maps.AppendAt
namespace Go.Proofs.Ytoefpnmfeaimlaa
open Go.RowKit Dk

attribute [local irreducible] wpMixN

theorem infoSec : (Try.prog.info? 52).map (fun i => (i.zero, i.size, i.bytes)) = some (some (.agg #[strV [], strV [], .bool false, .bool false]), 4, 40) := by kernel_rfl

/-- The cells of n new sectors. -/
def newSecs (n : Nat) : List Value := (List.replicate n (secCells fresh)).flatten
theorem newSecs_succ (n : Nat) : newSecs n ++ secCells fresh = newSecs (n + 1) := by
  unfold newSecs
  rw [List.replicate_succ', List.flatten_append]
  simp
theorem newSecs_len (n : Nat) : (newSecs n).length = n * 4 := by
  induction n with
  | zero => rfl
  | succ n ih => rw [← newSecs_succ, List.length_append, ih]; simp [secCells]; omega
theorem newSecs_at (n i j : Nat) (hi : i < n) (hj : j < 4) : (newSecs n)[i * 4 + j]? = (secCells fresh)[j]? := by
  induction n with
  | zero => omega
  | succ n ih =>
    rw [← newSecs_succ]
    by_cases e : i < n
    · rw [List.getElem?_append_left (by rw [newSecs_len]; omega)]
      exact ih e
    · obtain rfl : i = n := by omega
      rw [List.getElem?_append_right (by rw [newSecs_len]; omega), newSecs_len]
      congr 1
      omega

theorem owns_other {w w' : World} {base : Nat} {e : TypeId} {size n : Nat} {v : Value} {xs : List Value} (h : w.ownsRow base e size v n xs) (hw : ∀ k, base ≤ k → w'.heap[k]? = w.heap[k]?) : w'.ownsRow base e size v n xs := by
  obtain ⟨h1, h2 | ⟨g, cap, cur, hv, hle, hb, r⟩⟩ := h
  · exact ⟨h1, .inl h2⟩
  · exact ⟨h1, .inr ⟨g, cap, cur, hv, hle, (hw g hle).trans hb, r⟩⟩
theorem owns_ne {w : World} {base : Nat} {e : TypeId} {size n : Nat} {v : Value} {xs : List Value} (h : w.ownsRow base e size v n xs) {k : Nat} (hk : k < base) : some k ≠ v.ownBlock := by
  obtain ⟨_, ⟨rfl, _⟩ | ⟨g, cap, cur, rfl, hle, _⟩⟩ := h
  · simp [Value.ownBlock]
  · simp only [Value.ownBlock, ne_eq, Option.some.injEq]
    omega

theorem owns_slice {w : World} {base : Nat} {e : TypeId} {size n : Nat} {v : Value} {xs : List Value} (h : w.ownsRow base e size v n xs) : ∃ a cap, v = .slice a n cap := by
  obtain ⟨_, ⟨rfl, rfl⟩ | ⟨g, cap, cur, rfl, _⟩⟩ := h
  · exact ⟨_, _, rfl⟩
  · exact ⟨_, _, rfl⟩
theorem hzz_cells {zz : List UInt8} (h : zero64 = zz) : secCells fresh = #[.string ⟨zz.toArray⟩, .string ⟨#[]⟩, .bool false, .bool false].toList := by subst h; rfl

set_option maxHeartbeats 1000000 in
set_option maxRecDepth 100000 in
theorem rnew_core {w : World} (n : Nat) (hn : (1 : Int) ≤ n) (hn2 : (n : Int) ≤ 4096) (zc : Array Value) (hzc : Hid (∀ j, j < 64 → zc[j]? = some (byteV 0)))
    (hmk : Hid (∀ W : World, (Instr.makeSlice 68 (.int .i64 64) (.int .i64 64)).run Try.prog W = .ok (.slice (some ⟨W.heap.size, 0, none⟩) 64 64) (W.alloc (.cells zc 5))))
    (i0 : TypeInfo) (hi : Hid (Try.prog.info? 52 = some i0)) (hz0 : Hid (i0.zero = some (.agg #[strV [], strV [], .bool false, .bool false]))) (hz1 : Hid (i0.size = 4)) (hz2 : Hid (i0.bytes = 40)) :
    Calls Try.prog 36 #[.int .i64 n] w fun e w' => ∃ v, e = .returned (.tuple #[.pointer (some ⟨w.heap.size, 0, none⟩), .int .i64 0]) ∧
      w'.heap[w.heap.size]? = some (.cells #[v, .bool false, .int .i64 (-1)] 55 (0, 0)) ∧ w'.ownsRow (w.heap.size + 1) 52 4 v n (newSecs n) ∧ Below w.heap.size w w' := by
  go_enter Try.func36, Try.ntmps36
  go_wp2
  go_loopw [5] (fun iv wr => ∃ (j : Nat) (v : Value), j ≤ n ∧ iv = .int .i64 j ∧ wr.heap[w.heap.size]? = some (.cells #[v, .bool false, .int .i64 (-1)] 55 (0, 0)) ∧ wr.ownsRow (w.heap.size + 1) 52 4 v j (newSecs j) ∧ Below w.heap.size w wr) (fun iv _ => n - (intOf iv).toNat)
  case atStart => exact ⟨0, .slice none 0 0, Nat.zero_le _, rfl, heap_alloc_last _ _, ⟨rfl, .inl ⟨rfl, rfl⟩⟩, (Below.refl _ _).alloc (Nat.le_refl _) _⟩
  case round =>
    obtain ⟨j, v, hj, rfl, hp, hown, hb⟩ := hrel
    have HP := Lib.hid hp
    have HO := Lib.hid hown
    have HB := Lib.hid hb
    clear hp hown hb
    by_cases hlt : j < n
    · have hjn : (j : Int) < n := by omega
      go_wp2
      refine wp_region_mixesN (fun W => W.cell? ⟨w.heap.size, 0, none⟩ = some v) [12]
        [(true, 0), (true, 1), (true, 2), (true, 3), (true, 4), (false, 5), (false, 6), (false, 7), (false, 8), (false, 9), (false, 10), (false, 11), (false, 12)] (by kernel_rfl) (by kernel_rfl) ?_
      have hS : wr.drew.cell? ⟨w.heap.size, 0, none⟩ = some v := cell_blk (w := wr.drew) HP.out 0
      have HS := Lib.hid hS
      clear hS
      repeat (apply wpMixN_take rfl rfl HS.out; (focus (rintro W d0; go_simp; rfl)); intro K' hK; go_simp; refine hK _ _ ?_; clear hK K')
      have hmk' := hmk.out wr.drew
      refine wpMixN_go rfl rfl (fun K' hK => ?_)
      go_simp
      refine hK _ _ ⟨fun _ => cell_blk (w := wr.drew.alloc _) ((heap_alloc_lt wr.drew _ _ (lt_of_heap HP.out)).trans HP.out) 0, ?_⟩
      clear hK K' hmk'
      have hr5 : (wr.drew.alloc (.cells zc 5)).rangeAt wr.heap.size 0 (byteVs zero64) := range_of_block (heap_alloc_last wr.drew _) (fun q hq => by
        rw [byteVs_length] at hq
        have hq : q < 64 := by simpa [zero64] using hq
        rw [Nat.zero_add, hzc.out q hq, byteVs_zero q hq]
        rfl)
      refine wpMixN_value rfl rfl (exec_convert rfl rfl (run_bytesStr 68 9 5 Try.underlying68 Try.underlying5 Try.underlying9 wr.heap.size 0 64 64 zero64 (by simp [zero64]) hr5)) (fun _ => cell_blk (w := wr.drew.alloc _) ((heap_alloc_lt wr.drew _ _ (lt_of_heap HP.out)).trans HP.out) 0) ?_
      clear hr5
      unfold strV
      generalize hzz : zero64 = zz
      go_simp
      refine wpMixN_go rfl rfl (fun K' hK => ?_)
      go_simp
      refine hK _ _ ⟨fun _ => cell_blk (w := wr.drew.alloc _) ((heap_alloc_lt wr.drew _ _ (lt_of_heap HP.out)).trans HP.out) 0, ?_⟩
      clear hK K'
      refine wpMixN_go rfl rfl (fun K' hK => ?_)
      go_simp
      have hb8 : (((wr.alloc (.cells zc 5)).alloc (.cells #[.string ⟨zz.toArray⟩, .string ⟨#[]⟩, .bool false, .bool false] 52)).drew).heap[w.heap.size]? = some (.cells #[v, .bool false, .int .i64 (-1)] 55 (0, 0)) := by
        have := lt_of_heap HP.out
        show ((wr.alloc _).alloc _).heap[w.heap.size]? = _
        rw [heap_alloc_lt _ _ _ (by simp; omega), heap_alloc_lt _ _ _ this]
        exact HP.out
      refine hK _ _ ⟨fun _ => cell_blk hb8 0, ?_⟩
      clear hK K'
      have hnew : (((wr.alloc (.cells zc 5)).alloc (.cells #[.string ⟨zz.toArray⟩, .string ⟨#[]⟩, .bool false, .bool false] 52)).drew).heap[wr.heap.size + 1]? = some (.cells #[.string ⟨zz.toArray⟩, .string ⟨#[]⟩, .bool false, .bool false] 52 (0, 0)) := by
        show ((wr.alloc _).alloc _).heap[wr.heap.size + 1]? = _
        exact heap_alloc_at _ _ _ (by simp)
      have ho8 : (((wr.alloc (.cells zc 5)).alloc (.cells #[.string ⟨zz.toArray⟩, .string ⟨#[]⟩, .bool false, .bool false] 52)).drew).ownsRow (w.heap.size + 1) 52 4 v j (newSecs j) := owns_other ((HO.out.alloc _).alloc _) (fun _ _ => rfl)
      have hbel8 : Below w.heap.size w ((wr.alloc (.cells zc 5)).alloc (.cells #[.string ⟨zz.toArray⟩, .string ⟨#[]⟩, .bool false, .bool false] 52)).drew := by
        have := HB.out.size
        exact ((HB.out.alloc (by omega) _).alloc (by simp; omega) _).drew
      have hsz8 : (((wr.alloc (.cells zc 5)).alloc (.cells #[.string ⟨zz.toArray⟩, .string ⟨#[]⟩, .bool false, .bool false] 52)).drew).heap.size = wr.heap.size + 2 := by simp
      have hpl := lt_of_heap HP.out
      generalize ((wr.alloc (.cells zc 5)).alloc (.cells #[.string ⟨zz.toArray⟩, .string ⟨#[]⟩, .bool false, .bool false] 52)).drew = W8 at *
      obtain ⟨v', w9, hr, hown', hgrow, -, -⟩ := run_append_own_at (P := Try.prog) (w := W8) (w.heap.size + 1) 53 53 52 i0 _ 4 40 Try.underlying53 hi.out hz0.out hz1.out hz2.out rfl (by decide) v j (newSecs j) ho8 ⟨wr.heap.size + 1, 0, none⟩ 1 1 (secCells fresh) rfl
        (by
          intro q u hu
          rw [Addr.add_mid, Nat.zero_add, cell_blk hnew, ← Array.getElem?_toList]
          rw [hzz_cells hzz] at hu
          exact hu)
        (by decide +kernel) (by unfold maxLen; omega) (by omega) (by omega)
      have hb9 : w9.heap[w.heap.size]? = some (.cells #[v, .bool false, .int .i64 (-1)] 55 (0, 0)) := (hgrow.block _ (by omega) (owns_ne ho8 (by omega))).trans hb8
      refine wpMixN_value rfl rfl (exec_append rfl rfl rfl hr) (fun _ => cell_blk hb9 0) ?_
      rw [newSecs_succ] at hown'
      obtain ⟨a', cap', rfl⟩ := owns_slice hown'
      have hbel9 : Below w.heap.size w w9 := hbel8.trans ⟨hgrow.os, hgrow.tape, hgrow.output, hgrow.size, fun k hk => hgrow.block k (by omega) (owns_ne ho8 (by omega))⟩
      have B9 := Lib.hid hb9
      have O9 := Lib.hid hown'
      have L9 := Lib.hid hbel9
      have c9 := cell_blk hb9 0
      have f9 := free_blk hb9 0
      clear hr hown' hgrow hb9 hbel9 hb8 hnew ho8 hbel8 hsz8 hpl
      go_simp
      refine wpMixN_go rfl rfl (fun K' hK => ?_)
      go_simp
      refine hK _ _ ⟨fun _ => cell_blk B9.out 0, ?_⟩
      clear hK K'
      refine wpMixN_go rfl rfl (fun K' hK => ?_)
      go_simp
      refine hK _ _ ⟨fun _ => cell_blk B9.out 0, ?_⟩
      clear hK K'
      refine wpMixN_go rfl rfl (fun K' hK => ?_)
      go_simp
      refine hK _ _ ⟨(fun h => by cases h), ?_⟩
      clear hK K'
      refine wpMixN_nil ?_
      go_wp2
      go_roundw
      case rel =>
        have hs := setCell_put w9 w.heap.size 0 (.slice a' (j + 1 : Nat) cap') _ _ _ B9.out
        simp at hs
        refine ⟨j + 1, _, by omega, by go_num, ?_, owns_other O9.out (fun k hk => ?_), L9.out.setCell (p := ⟨w.heap.size, 0, none⟩) (Nat.le_refl _) _⟩
        · rw [hs]; exact heap_put_same _ _ _ (lt_of_heap B9.out)
        · rw [hs]; exact heap_put_ne _ _ _ _ (by omega)
      case measure => simp [intOf]; omega
    · obtain rfl : j = n := by omega
      go_wp2
      go_ret2
      exact ⟨v, rfl, HP.out, HO.out, HB.out⟩

theorem made_byte (j : Nat) (hj : j < 64) : (madeCells (Value.int .u8 0).cells 64)[j]? = some (byteV 0) := by
  simp only [madeCells, Array.getElem?_map]
  rw [Array.getElem?_eq_getElem (by simpa using hj)]
  simp only [Array.getElem_range, Option.map_some]
  have e : (Value.int .u8 0).cells = #[Value.int .u8 0] := rfl
  rw [e]
  simp only [List.size_toArray, List.length_cons, List.length_nil, Nat.zero_add, Nat.mod_one]
  rfl
theorem rnew_any {w : World} (n : Nat) (hn : 1 ≤ n) (hn2 : n ≤ 4096) :
    Calls Try.prog 36 #[.int .i64 n] w fun e w' => ∃ r : RF, e = .returned (.tuple #[.pointer (some ⟨r.p, 0, none⟩), .int .i64 0]) ∧ RAt w' r (DS.new n) ∧ Below w.heap.size w w' ∧ ∀ b ∈ r.blks, w.heap.size ≤ b := by
  cases hi : Try.prog.info? 52 with
  | none => have := infoSec; rw [hi] at this; cases this
  | some i0 =>
  have hib := infoSec
  rw [hi] at hib
  simp only [Option.map_some, Option.some.injEq, Prod.mk.injEq] at hib
  obtain ⟨hz0, hz1, hz2⟩ := hib
  cases h8 : Try.prog.info? 5 with
  | none => have := info8; rw [h8] at this; cases this
  | some i8 =>
  have hi8 := info8
  rw [h8] at hi8
  simp only [Option.map_some, Option.some.injEq, Prod.mk.injEq] at hi8
  obtain ⟨hz, hsz, hby⟩ := hi8
  have hmk : ∀ W : World, _ := fun W => run_makeSlice (P := Try.prog) W 68 5 i8 _ Try.underlying68 h8 hz .i64 .i64 64 64 (by omega) (by omega) (by rw [hsz]; omega) (by rw [hby]; omega) (by omega)
  rw [hsz] at hmk
  refine (rnew_core n (by omega) (by omega) _ made_byte hmk i0 hi hz0 hz1 hz2).mono ?_
  rintro e w' ⟨v, rfl, hp, hown, hb⟩
  obtain ⟨_, ⟨_, h0⟩ | ⟨g, cap, cur, rfl, hle, hblk, hnc, hcm, hcs, ht⟩⟩ := hown
  · omega
  have hl : (DS.new n).s.length = n := by simp [DS.new]
  refine ⟨⟨w.heap.size, g⟩, rfl, ⟨cur, -1, cap, { hp := by rw [hl]; exact hp, hx := (by show (-1 : Int) < 0; omega), hx2 := by omega, hb := hblk, hc := ?_, ok := ?_, one := by rw [hl]; exact hn, few := by rw [hl]; exact hn2, pb := by simp only [ne_eq]; omega }⟩, hb, ?_⟩
  · intro i hi j hj
    rw [hl] at hi
    rw [sec_new, ← newSecs_at n i j hi hj, ← ht, List.getElem?_take, if_pos (by omega), Array.getElem?_toList]
  · intro x hx
    have : x = fresh := (List.mem_replicate.1 hx).2
    subst this
    exact ⟨by simp [fresh, zero64], fun t h => by cases h⟩
  · intro b hb'
    simp [RF.blks] at hb'
    omega
end Go.Proofs.Ytoefpnmfeaimlaa
