/- The contract of Clone of the disk of the specification. -/
import Derived.Test.YtoefpnmfeaimlaaRSame
namespace Go.Proofs.Ytoefpnmfeaimlaa
open Go.RowKit Dk

attribute [local irreducible] wpMix

theorem secCells_one (s : Sec) (v : Value) (j : Nat) (h : (secCells s)[j]? = some v) : v.oneCell' = true := by
  match j with
  | 0 => cases h; rfl
  | 1 => cases h; rfl
  | 2 => cases h; rfl
  | 3 => cases h; rfl
  | j + 4 => simp [secCells] at h

set_option maxHeartbeats 1000000 in
set_option maxRecDepth 100000 in
theorem rclone_core {w : World} (p b n cap : Nat) (off : Bool) (x : Int) (c0 : w.cell? ⟨p, 0, none⟩ = some (.slice (some ⟨b, 0, none⟩) n cap)) (c1 : w.cell? ⟨p, 1, none⟩ = some (.bool off)) (c2 : w.cell? ⟨p, 2, none⟩ = some (.int .i64 x))
    (g cap' : Nat) (W1 : World) (hap : ∀ W : World, W = w.drew.alloc (.cells #[] 52) → (Builtin.append_ #[53, 53] 53 #[.slice (some ⟨w.heap.size, 0, none⟩) 0 0, .slice (some ⟨b, 0, none⟩) n cap]).run Try.prog W = .ok (.slice (some ⟨g, 0, none⟩) n cap') W1)
    (hW : Hid (Below w.heap.size w W1)) :
    Calls Try.prog 27 #[.pointer (some ⟨p, 0, none⟩)] w fun e w' => e = .returned (.pointer (some ⟨W1.heap.size, 0, none⟩)) ∧ w' = W1.alloc (.cells #[.slice (some ⟨g, 0, none⟩) n cap', .bool off, .int .i64 x] 55) := by
  have hS : ∀ W : World, Below w.heap.size w W → W.cell? ⟨p, 0, none⟩ = some (.slice (some ⟨b, 0, none⟩) n cap) ∧ W.cell? ⟨p, 1, none⟩ = some (.bool off) ∧ W.cell? ⟨p, 2, none⟩ = some (.int .i64 x) :=
    fun W hb => ⟨cells_kept hb c0, cells_kept hb c1, cells_kept hb c2⟩
  have HS := Lib.hid hS
  have HAP := Lib.hid hap
  clear hS hap c0 c1 c2
  go_enter Try.func27, Try.ntmps27
  go_wp2
  refine wp_region_mixes (fun W => W.cell? ⟨p, 0, none⟩ = some (.slice (some ⟨b, 0, none⟩) n cap) ∧ W.cell? ⟨p, 1, none⟩ = some (.bool off) ∧ W.cell? ⟨p, 2, none⟩ = some (.int .i64 x))
    [(true, 1), (true, 2), (true, 3), (true, 4), (true, 6), (true, 7), (true, 8), (true, 9), (true, 10), (true, 11), (true, 12), (true, 13), (false, 0), (false, 5), (false, 14), (false, 15), (false, 16)] (by kernel_rfl) (by kernel_rfl) (HS.out _ (Below.refl _ _).drew) ?_
  repeat (apply wpMix_take rfl rfl; (focus (rintro W ⟨c0, c1, c2⟩; go_simp; rfl)); intro K' hK; go_simp; refine hK _ _ ?_; clear hK K')
  refine wpMix_go rfl rfl (fun K' hK => ?_)
  go_simp
  refine hK _ _ ⟨HS.out _ (((Below.refl _ _).drew).alloc (Nat.le_refl _) _), ?_⟩
  clear hK K'
  refine wpMix_value rfl rfl (exec_append rfl rfl rfl (HAP.out _ rfl)) (HS.out _ hW.out) ?_
  go_simp
  refine wpMix_go rfl rfl (fun K' hK => ?_)
  go_simp
  refine hK _ _ ⟨HS.out _ hW.out, ?_⟩
  clear hK K'
  refine wpMix_go rfl rfl (fun K' hK => ?_)
  go_simp
  refine hK _ _ ⟨HS.out _ (hW.out.alloc hW.out.size _), ?_⟩
  clear hK K'
  refine wpMix_go rfl rfl (fun K' hK => ?_)
  go_simp
  refine hK _ _ ⟨HS.out _ (hW.out.alloc hW.out.size _), ?_⟩
  clear hK K'
  refine wpMix_nil ?_
  go_wp2
  go_ret
  exact ⟨rfl, rfl⟩

theorem rclone_any {w : World} {r : RF} {D : DS} (h : RAt w r D) :
    Calls Try.prog 27 #[.pointer (some ⟨r.p, 0, none⟩)] w fun e w' => ∃ r' : RF, e = .returned (.pointer (some ⟨r'.p, 0, none⟩)) ∧ RAt w' r' D ∧ Below w.heap.size w w' ∧ ∀ b ∈ r'.blks, w.heap.size ≤ b := by
  obtain ⟨c, x, cap, h⟩ := h
  cases hi : Try.prog.info? 52 with
  | none => have := infoSec; rw [hi] at this; cases this
  | some i =>
    have hib := infoSec
    rw [hi] at hib
    simp only [Option.map_some, Option.some.injEq, Prod.mk.injEq] at hib
    obtain ⟨hz, hsz, hby⟩ := hib
    have hn := h.one
    have hn2 := h.few
    have hbl := lt_of_heap h.hb
    have hcs : D.s.length * 4 ≤ c.size := by
      have := h.hc (D.s.length - 1) (by omega) 3 (by omega)
      have h3 : (secCells (D.sec (D.s.length - 1)))[3]? = some (.bool (D.sec (D.s.length - 1)).worn) := rfl
      rw [h3] at this
      have := (Array.getElem?_eq_some_iff.1 this).1
      omega
    have h1 : ∀ j, j < D.s.length * 4 → ∃ v, c[j]? = some v ∧ v.oneCell' = true := by
      intro j hj
      have e := h.hc (j / 4) (by omega) (j % 4) (Nat.mod_lt _ (by omega))
      rw [show j / 4 * 4 + j % 4 = j by omega] at e
      have hv : c[j]? = some (c[j]'(by omega)) := Array.getElem?_eq_getElem (by omega)
      exact ⟨_, hv, secCells_one _ _ _ (e.symm.trans hv)⟩
    have hlen : (c.toList.take (D.s.length * 4)).length = D.s.length * i.size := by rw [List.length_take, hsz]; simp; omega
    have hsrc : ∀ W : World, W = w.drew.alloc (.cells #[] 52) → Src Try.prog i.size 53 (.slice (some ⟨r.b, 0, none⟩) D.s.length cap) D.s.length (c.toList.take (D.s.length * 4)) W := by
      rintro W rfl
      refine Src.ofSlice _ Try.underlying53 ⟨r.b, 0, none⟩ D.s.length cap _ hlen ?_ ?_
      · intro j u hu
        rw [Addr.add_mid, Nat.zero_add, cell_blk ((heap_alloc_lt w.drew _ _ hbl).trans h.hb)]
        rw [List.getElem?_take] at hu
        split at hu
        · rw [← hu]; simp
        · cases hu
      · intro u hu
        obtain ⟨j, hj, rfl⟩ := List.getElem_of_mem hu
        have hj2 : j < D.s.length * 4 := by rw [hlen, hsz] at hj; exact hj
        obtain ⟨v, hv, hv1⟩ := h1 j hj2
        rw [List.getElem_take]
        have : c[j]'(by have := (Array.getElem?_eq_some_iff.1 hv).1; exact this) = v := (Array.getElem?_eq_some_iff.1 hv).2
        simp only [Array.getElem_toList, this, hv1]
    have hns : Builtin.nextslicecap (0 + D.s.length) 0 = D.s.length := by unfold Builtin.nextslicecap; rw [if_pos (by omega)]; omega
    have hap := fun (W : World) (e : W = w.drew.alloc (.cells #[] 52)) => run_append_grow_src (P := Try.prog) W 53 53 53 52 i _ Try.underlying53 hi hz (some ⟨w.heap.size, 0, none⟩) 0 0 [] (by simp [Builtin.firstCells, loadCells, loadCellsFrom]) _ D.s.length _ (hsrc W e) (by omega) (by omega) (by rw [hns, hby]; omega)
    simp only [Nat.zero_add] at hap
    have hap' := fun W e => (hap W e).trans (by subst e; rfl)
    refine (rclone_core r.p r.b D.s.length cap D.off x h.c0 h.c1 h.c2 _ _ _ hap' ?_).mono ?_
    · exact ((((Below.refl _ w).drew).alloc (Nat.le_refl _) _).drew).alloc (by simp) _
    · rintro e w' ⟨rfl, rfl⟩
      have hsz : ((w.drew.alloc (.cells #[] 52)).drew).heap.size = w.heap.size + 1 := by simp
      refine ⟨⟨_, _⟩, rfl, ⟨([] ++ c.toList.take (D.s.length * 4)).toArray ++ Builtin.zeroCells (Value.agg #[strV [], strV [], .bool false, .bool false]).cells (grownCap (w.drew.alloc (.cells #[] 52)) D.s.length 0 52 - D.s.length), x, _, { hp := heap_alloc_last _ _, hx := h.hx, hx2 := h.hx2, hb := ?_, hc := ?_, ok := h.ok, one := h.one, few := h.few, pb := ?_ }⟩, ?_, ?_⟩
      · rw [heap_alloc_lt _ _ _ (by simp)]
        exact heap_alloc_at _ _ _ rfl
      · intro k hk j hj
        rw [← h.hc k hk j hj, Array.getElem?_append_left (by simp; omega)]
        simp only [List.nil_append, List.getElem?_toArray]
        rw [List.getElem?_take, if_pos (by omega), Array.getElem?_toList]
      · simp
      · exact (((((Below.refl _ w).drew).alloc (Nat.le_refl _) _).drew).alloc (by simp) _).alloc (by simp; omega) _
      · intro b hb
        simp [RF.blks] at hb
        omega
end Go.Proofs.Ytoefpnmfeaimlaa
