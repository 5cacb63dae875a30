/- The contract of Write. -/
import Derived.Test.YtoefpnmfeaimlaaDisk2
import Derived.Test.YtoefpnmfeaimlaaRegs
namespace Go.Proofs.Ytoefpnmfeaimlaa
open Go.RowKit Dk

set_option maxRecDepth 100000 in
set_option maxHeartbeats 400000 in
theorem write_core {w : World} (p mp : Nat) (i : Int) (s : List UInt8) (hs : s.length = 64)
    (HC : Hid (Calls Try.prog 31 #[.pointer (some ⟨p, 0, none⟩), .int .i64 i] w fun e w' => e = .returned (.int .i64 0) ∧ w = w')) (W1 : World) (h11 : W1.cell? ⟨p, 1, none⟩ = some (.map (some mp)))
    (HS : Hid (Calls Try.prog 32 #[.pointer (some ⟨p, 0, none⟩)] w fun e w' => e = .returned (.int .i64 0) ∧ W1 = w')) (es : Array MapEntry) (clock : Nat) (hne : p ≠ mp)
    (hup : (Instr.mapUpdate 64 (.map (some mp)) (.int .i64 i) (.agg (byteVs s).toArray)).run Try.prog (convW 5 s W1.drew) = .ok () (putObj (convW 5 s W1.drew) mp (.map es clock))) :
    Calls Try.prog 12 #[.pointer (some ⟨p, 0, none⟩), .int .i64 i, strV s] w fun e w' => e = .returned (.int .i64 0) ∧ w' = putObj (convW 5 s W1.drew) mp (.map es clock) := by
  unfold strV
  have hcv := run_strBytes (P := Try.prog) 9 68 5 Try.underlying9 Try.underlying68 Try.underlying5 s
  have hld := run_loadConv (P := Try.prog) 70 5 s hs sizeB Try.underlying70
  rw [hs] at hcv
  have hcv1 : (convW 5 s W1.drew).cell? ⟨p, 1, none⟩ = some (.map (some mp)) := by
    rw [← h11]
    exact World.cell?_of_block (w := W1.drew) (convW_heap _ _ _ _ (lt_of_cell h11))
  have hcv2 : (putObj (convW 5 s W1.drew) mp (.map es clock)).cell? ⟨p, 1, none⟩ = some (.map (some mp)) := by
    rw [← hcv1]
    exact World.cell?_of_block (w := convW 5 s W1.drew) (heap_put_ne _ _ _ _ hne)
  go_enter Try.func12, Try.ntmps12
  go_wp2_with (first
    | (go_at_call 31; refine HC.out.mono ?_; rintro e w' ⟨rfl, rfl⟩)
    | (go_at_call 32; refine HS.out.mono ?_; rintro e w' ⟨rfl, rfl⟩))
  refine wp_region_mix (fun w' => w'.cell? ⟨p, 1, none⟩ = some (.map (some mp))) [0, 1, 2, 3, 4, 5] [6, 7, 8, 9] (by kernel_rfl) (by kernel_rfl) h11 ?_
  simp only [pickOps, List.filterMap_cons, List.filterMap_nil, List.getElem?_toArray, List.getElem?_cons_zero, List.getElem?_cons_succ]
  repeat (apply wpTake_go rfl; (focus (intro W c1; go_simp; rfl)); intro K' hK; go_simp; refine hK _ ?_; clear hK K')
  refine wpTake_nil ?_
  refine wpChain_go rfl (fun K' hK => ?_)
  go_simp
  refine hK _ _ ⟨hcv1, ?_⟩
  clear hK K'
  refine wpChain_go rfl (fun K' hK => ?_)
  go_simp
  refine hK _ _ ⟨hcv1, ?_⟩
  clear hK K'
  refine wpChain_value rfl (exec_load (p := .pointer (some ⟨W1.heap.size, 0, none⟩)) rfl rfl (hld W1.drew)) hcv1 ?_
  refine wpChain_unit rfl (exec_update (vm := .map (some mp)) (vk := .int .i64 i) (v := .agg (byteVs s).toArray) rfl rfl rfl rfl hup) hcv2 ?_
  refine wpChain_nil ?_
  go_wp2
  go_ret
  exact ⟨rfl, rfl⟩

/-- The early ways out. -/
theorem write_check {w : World} (p : Nat) (i : Int) (s : List UInt8) (v : Int) (hv : (v != 0) = true)
    (HC : Hid (Calls Try.prog 31 #[.pointer (some ⟨p, 0, none⟩), .int .i64 i] w fun e w' => e = .returned (.int .i64 v) ∧ w = w')) :
    Calls Try.prog 12 #[.pointer (some ⟨p, 0, none⟩), .int .i64 i, strV s] w fun e w' => e = .returned (.int .i64 v) ∧ w = w' := by
  unfold strV
  go_enter Try.func12, Try.ntmps12
  go_wp2_with (go_at_call 31; refine HC.out.mono ?_; rintro e w' ⟨rfl, rfl⟩)
  go_ret
  exact ⟨rfl, rfl⟩
theorem write_len {w : World} (p : Nat) (i : Int) (s : List UInt8) (hl : ((s.length : Int) != 64) = true)
    (HC : Hid (Calls Try.prog 31 #[.pointer (some ⟨p, 0, none⟩), .int .i64 i] w fun e w' => e = .returned (.int .i64 0) ∧ w = w')) :
    Calls Try.prog 12 #[.pointer (some ⟨p, 0, none⟩), .int .i64 i, strV s] w fun e w' => e = .returned (.int .i64 1) ∧ w = w' := by
  unfold strV
  go_enter Try.func12, Try.ntmps12
  go_wp2_with (go_at_call 31; refine HC.out.mono ?_; rintro e w' ⟨rfl, rfl⟩)
  go_ret
  exact ⟨rfl, rfl⟩
theorem write_step {w W1 : World} (p : Nat) (i : Int) (s : List UInt8) (hs : s.length = 64) (v : Int) (hv : (v != 0) = true)
    (HC : Hid (Calls Try.prog 31 #[.pointer (some ⟨p, 0, none⟩), .int .i64 i] w fun e w' => e = .returned (.int .i64 0) ∧ w = w'))
    (HS : Hid (Calls Try.prog 32 #[.pointer (some ⟨p, 0, none⟩)] w fun e w' => e = .returned (.int .i64 v) ∧ W1 = w')) :
    Calls Try.prog 12 #[.pointer (some ⟨p, 0, none⟩), .int .i64 i, strV s] w fun e w' => e = .returned (.int .i64 v) ∧ W1 = w' := by
  unfold strV
  go_enter Try.func12, Try.ntmps12
  go_wp2_with (first
    | (go_at_call 31; refine HC.out.mono ?_; rintro e w' ⟨rfl, rfl⟩)
    | (go_at_call 32; refine HS.out.mono ?_; rintro e w' ⟨rfl, rfl⟩))
  go_ret
  exact ⟨rfl, rfl⟩

theorem step_cases (D : DS) : D.step.2 = 24 ∨ (D.step.2 = 0 ∧ D.step.1.s = D.s ∧ D.step.1.off = D.off) := by
  unfold DS.step eDown eOK
  cases D.left with
  | none => exact .inr ⟨rfl, rfl, rfl⟩
  | some k => cases k with
    | zero => exact .inl rfl
    | succ k => exact .inr ⟨rfl, rfl, rfl⟩

theorem write_any {w : World} {f : DF} {D : DS} (h : DiskAt w f D) (i : Int) (s : List UInt8) :
    Calls Try.prog 12 #[.pointer (some ⟨f.p, 0, none⟩), .int .i64 i, strV s] w fun e w' => e = .returned (.int .i64 (D.writeE i s)) ∧ DiskAt w' f (D.write i s) ∧ Fr f.blks w w' := by
  have hch := check_any h i
  rcases check_cases D i with ⟨hc, _⟩ | ⟨hc, _, _⟩ | ⟨hc, ho, hi⟩
  · rw [hc] at hch
    have e1 : D.writeE i s = 24 := by simp [DS.writeE, hc, eOK]
    have e2 : D.write i s = D := by simp [DS.write, hc, eOK]
    rw [e1, e2]
    exact (write_check f.p i s 24 rfl hch).mono fun e w' ⟨he, hw⟩ => by subst hw; exact ⟨he, h, Fr.refl _ _⟩
  · rw [hc] at hch
    have e1 : D.writeE i s = 1 := by simp [DS.writeE, hc, eOK]
    have e2 : D.write i s = D := by simp [DS.write, hc, eOK]
    rw [e1, e2]
    exact (write_check f.p i s 1 rfl hch).mono fun e w' ⟨he, hw⟩ => by subst hw; exact ⟨he, h, Fr.refl _ _⟩
  rw [hc] at hch
  by_cases hs : s.length = 64
  case neg =>
    have e1 : D.writeE i s = 1 := by simp [DS.writeE, hc, hs, eOK, eArg]
    have e2 : D.write i s = D := by simp [DS.write, hc, hs, eOK]
    rw [e1, e2]
    exact (write_len f.p i s (by rw [bne_iff_ne]; omega) hch).mono fun e w' ⟨he, hw⟩ => by subst hw; exact ⟨he, h, Fr.refl _ _⟩
  obtain ⟨W1, hD1, hF1, hz1, hst⟩ := step_ex h
  rcases step_cases D with hq | ⟨hq, hs1, _⟩
  · rw [hq] at hst
    have e1 : D.writeE i s = 24 := by simp [DS.writeE, hc, hs, hq, eOK]
    have e2 : D.write i s = D.step.1 := by simp [DS.write, hc, hs, hq, eOK]
    rw [e1, e2]
    exact (write_step f.p i s hs 24 rfl hch hst).mono fun e w' ⟨he, hw⟩ => by subst hw; exact ⟨he, hD1, hF1⟩
  · rw [hq] at hst
    obtain ⟨k, rfl, hk⟩ := nat_of hi
    have hsec : D.step.1.sec k = D.sec k := by simp [DS.sec, hs1]
    have e1 : D.writeE k s = 0 := by simp [DS.writeE, hc, hs, hq, eOK]
    have e2 : D.write k s = D.step.1.setSec k { D.step.1.sec k with next := some s } := by simp [DS.write, hc, hs, hq, eOK, hsec]
    rw [e1, e2]
    rw [← hs1] at hk
    generalize D.step.1 = D1 at *
    obtain ⟨c, x, lp, lw, cap, h1⟩ := hD1
    have h11 := cell_blk h1.hp 1
    simp at h11
    obtain ⟨es, clock, hup, hes, hst2⟩ := run_update_map (P := Try.prog) Try.underlying64 Try.underlying3 h1.hm (k : Int) (aggV s)
    have hml := h1.hm.lt
    have hbl := lt_of_heap h1.hb
    have hwl := h1.hw.lt
    have hpl := lt_of_heap h1.hp
    have hcm := convW_heap 5 s W1.drew
    have hcs := convW_size 5 s W1.drew
    have hup1 := hup (convW 5 s W1.drew) (hcm f.mp hml)
    refine (write_core f.p f.mp k s hs hch W1 h11 hst es clock h1.pm hup1).mono ?_
    rintro e w' ⟨rfl, rfl⟩
    have hok := sec_ok h1.ok hk
    refine ⟨rfl, ?_, ?_⟩
    · refine h1.setSec hk { D1.sec k with next := some s } ⟨hok.1, fun t ht => by cases ht; exact hs⟩ ?_ (c' := c) ?_ ?_ (fun _ _ _ _ => rfl) (lp' := putM lp k (aggV s)) ?_ ?_ ?_ (lw' := lw) ?_ ?_ (fun _ _ => rfl)
      · rw [heap_put_ne _ _ _ _ h1.pm]; exact hcm f.p hpl
      · rw [heap_put_ne _ _ _ _ h1.bm]; exact (hcm f.bb hbl).trans h1.hb
      · exact h1.hc k hk
      · exact ⟨es, clock, heap_put_same _ _ _ (by rw [hcs]; simp; omega), hes, hst2⟩
      · rw [getM_put, if_pos rfl]; rfl
      · intro i hi; rw [getM_put, if_neg hi]
      · exact h1.hw.kept (by rw [heap_put_ne _ _ _ _ h1.mw.symm]; exact hcm f.mw hwl)
      · have := h1.hworn k
        rw [has_true (by omega) (by omega)] at this
        simpa using this
    · exact hF1.trans ((((Fr.refl f.blks W1).drew).trans (convW_fr _ _ _ _)).putObj (.inl (by simp [DF.blks])) _)
end Go.Proofs.Ytoefpnmfeaimlaa
