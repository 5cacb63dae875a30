/- The contracts of the three copies, and of Clone. -/
import Derived.Test.YtoefpnmfeaimlaaDisk2
import Derived.Test.YtoefpnmfeaimlaaRegs
import Derived.Deep.AppendSrc
import Derived.WalkSpells
import Derived.Laws.Externs
namespace Go.Proofs.Ytoefpnmfeaimlaa
open Go.RowKit Dk

/-- A map held against nil. -/
theorem run_equalIn_map_nil {P : Program} (w : World) (d : Nat) (t k e : TypeId) (p : Option Nat) (h : P.underlying t = some (.map k e)) : (Op.equalIn (d + 1) t (.map p) (.map none)).run P w = .ok p.isNone w := by
  cases p <;> simp [Op.equalIn, run_underlying h]
theorem run_eql_map_nil' {P : Program} (w : World) (t k e : TypeId) (p : Option Nat) (h : P.underlying t = some (.map k e)) : (binOp .eql t (.map p) (.map none)).run P w = .ok (.bool p.isNone) w := by
  simp only [binOp]
  simp [show Op.equal t (.map p) (.map none) = Op.equalIn (9999 + 1) t (.map p) (.map none) from rfl, run_equalIn_map_nil w 9999 t k e p h]
theorem run_typeAssert_map {P : Program} (w : World) (t xT k e : TypeId) (v : Value) (h : P.underlying t = some (.map k e)) : (Instr.typeAssert (.iface t v) xT t false).run P w = .ok v w := by
  simp [Instr.typeAssert, run_underlying h, go_sem, Result.andThen]
theorem run_maps_clone {P : Program} (w : World) {r : Nat} {es : Array MapEntry} {clock : Nat} (t : TypeId) (hb : w.heap[r]? = some (.map es clock)) :
    (Extern.MapsClone.clone #[.iface t (.map (some r))]).run P w = .ok (.iface t (.map (some w.heap.size))) (w.alloc (.map es clock)) := by
  have e : Extern.MapsClone.clone #[.iface t (.map (some r))] = (getObj r >>= fun o => match o with
      | .map entries clock => (newObj (.map entries clock) >>= fun n => pure (.iface t (.map (some n))))
      | _ => stuck "maps.clone: a map expected") := rfl
  rw [e]
  simp [MapKept.run_getObj_map hb, Result.andThen, go_sem]

set_option maxRecDepth 100000 in
theorem mcloneB_any {w : World} (b : Nat) (es : Array MapEntry) (clock : Nat) (hb : w.heap[b]? = some (.map es clock)) :
    Calls Try.prog 46 #[.map (some b)] w fun e w' => e = .returned (.map (some w.heap.size)) ∧ w' = w.alloc (.map es clock) := by
  have hq := fun w => run_eql_map_nil' (P := Try.prog) w 64 _ _ (some b) Try.underlying64
  go_enter Try.func46, Try.ntmps46
  go_wp2
  rw [run_callFunc_extern Try.func61 (by kernel_rfl) (by kernel_rfl) (by kernel_rfl) (e := Extern.MapsClone.clone) (by kernel_rfl), run_maps_clone w 64 hb]
  simp only [Result.andThen]
  rw [Oper.upon_value]
  go_wp2
  rw [run_typeAssert_map _ 64 20 _ _ _ Try.underlying64]
  simp only [Result.andThen]
  rw [Oper.upon_value]
  go_wp2
  go_ret
  exact ⟨rfl, rfl⟩
set_option maxRecDepth 100000 in
theorem mcloneW_any {w : World} (b : Nat) (es : Array MapEntry) (clock : Nat) (hb : w.heap[b]? = some (.map es clock)) :
    Calls Try.prog 47 #[.map (some b)] w fun e w' => e = .returned (.map (some w.heap.size)) ∧ w' = w.alloc (.map es clock) := by
  have hq := fun w => run_eql_map_nil' (P := Try.prog) w 65 _ _ (some b) Try.underlying65
  go_enter Try.func47, Try.ntmps47
  go_wp2
  rw [run_callFunc_extern Try.func61 (by kernel_rfl) (by kernel_rfl) (by kernel_rfl) (e := Extern.MapsClone.clone) (by kernel_rfl), run_maps_clone w 65 hb]
  simp only [Result.andThen]
  rw [Oper.upon_value]
  go_wp2
  rw [run_typeAssert_map _ 65 20 _ _ _ Try.underlying65]
  simp only [Result.andThen]
  rw [Oper.upon_value]
  go_wp2
  go_ret
  exact ⟨rfl, rfl⟩

set_option maxRecDepth 100000 in
/-- slices.Clone at blocks. -/
theorem sclone_core {w : World} (bb n cap : Nat) (v : Value) (W1 : World) (hap : (Builtin.append_ #[63, 63] 63 #[.slice (some ⟨w.heap.size, 0, none⟩) 0 0, .slice (some ⟨bb, 0, none⟩) n cap]).run Try.prog (w.alloc (.cells #[] 70)) = .ok v W1) :
    Calls Try.prog 45 #[.slice (some ⟨bb, 0, none⟩) n cap] w fun e w' => e = .returned v ∧ W1 = w' := by
  have hq := fun w => Lib.run_eql_slice_nil (P := Try.prog) w 63 _ (some ⟨bb, 0, none⟩) n cap 0 0 Try.underlying63
  go_enter Try.func45, Try.ntmps45
  go_wp2_with (at_builtin; refine wpList_run rfl (exec_append (p := .slice (some ⟨w.heap.size, 0, none⟩) 0 0) (q := .slice (some ⟨bb, 0, none⟩) n cap) rfl rfl rfl hap) ?_)
  go_ret
  exact ⟨rfl, rfl⟩
theorem infoB1 : (Try.prog.info? 70).map (fun i => (i.zero.isSome, i.size, i.bytes)) = some (true, 64, 64) := by kernel_rfl
theorem sclone_any {w : World} (bb n cap : Nat) (hn : 1 ≤ n) (hn2 : n ≤ 4096) (c : Array Value) (hb : w.heap[bb]? = some (.cells c 70 (0, 0))) (hc : n * 64 ≤ c.size) (h1 : ∀ j, j < n * 64 → ∃ v, c[j]? = some v ∧ v.oneCell' = true) :
    Calls Try.prog 45 #[.slice (some ⟨bb, 0, none⟩) n cap] w fun e w' => ∃ g cap' c', e = .returned (.slice (some ⟨g, 0, none⟩) n cap') ∧ w.heap.size ≤ g ∧ w'.heap[g]? = some (.cells c' 70 (0, 0)) ∧ (∀ j, j < n * 64 → c'[j]? = c[j]?) ∧ Below w.heap.size w w' := by
  cases hi : Try.prog.info? 70 with
  | none => have := infoB1; rw [hi] at this; cases this
  | some i =>
    have hib := infoB1
    rw [hi] at hib
    simp only [Option.map_some, Option.some.injEq, Prod.mk.injEq] at hib
    obtain ⟨hz, hsz, hby⟩ := hib
    obtain ⟨z, hz⟩ := Option.isSome_iff_exists.1 hz
    have hbl := lt_of_heap hb
    have hlen : (c.toList.take (n * 64)).length = n * i.size := by rw [List.length_take, hsz]; simp; omega
    have hsrc : Src Try.prog i.size 63 (.slice (some ⟨bb, 0, none⟩) n cap) n (c.toList.take (n * 64)) (w.alloc (.cells #[] 70)) := by
      refine Src.ofSlice _ Try.underlying63 ⟨bb, 0, none⟩ n cap _ hlen ?_ ?_
      · intro j u hu
        rw [Addr.add_mid, Nat.zero_add, cell_blk ((heap_alloc_lt _ _ _ hbl).trans hb)]
        rw [List.getElem?_take] at hu
        split at hu
        · rw [← hu]; simp
        · cases hu
      · intro u hu
        obtain ⟨j, hj, rfl⟩ := List.getElem_of_mem hu
        have hj2 : j < n * 64 := by rw [hlen, hsz] at hj; exact hj
        obtain ⟨v, hv, hv1⟩ := h1 j hj2
        rw [List.getElem_take]
        have : c[j]'(by have := (Array.getElem?_eq_some_iff.1 hv).1; exact this) = v := (Array.getElem?_eq_some_iff.1 hv).2
        simp only [Array.getElem_toList, this, hv1]
    have hold : (Builtin.firstCells i.size 0 (.slice (some ⟨w.heap.size, 0, none⟩) 0 0)).run Try.prog (w.alloc (.cells #[] 70)).drew = .ok ([] : List Value).toArray (w.alloc (.cells #[] 70)).drew := by
      simp [Builtin.firstCells, loadCells, loadCellsFrom]
    have hns : Builtin.nextslicecap (0 + n) 0 = n := by unfold Builtin.nextslicecap; rw [if_pos (by omega)]; omega
    have hap := run_append_grow_src (P := Try.prog) (w.alloc (.cells #[] 70)) 63 63 63 70 i z Try.underlying63 hi hz (some ⟨w.heap.size, 0, none⟩) 0 0 [] hold _ n _ hsrc (by omega) (by omega) (by rw [hns, hby]; omega)
    rw [Nat.zero_add] at hap
    refine (sclone_core bb n cap _ _ hap).mono ?_
    rintro e w' ⟨rfl, rfl⟩
    refine ⟨_, _, _, rfl, ?_, heap_alloc_at _ _ _ rfl, ?_, ?_⟩
    · simp
    · intro j hj
      rw [Array.getElem?_append_left (by simp; omega)]
      simp only [List.nil_append, List.getElem?_toArray]
      rw [List.getElem?_take, if_pos hj, Array.getElem?_toList]
    · exact (((Below.refl _ w).alloc (Nat.le_refl _) _).drew).alloc (by simp) _

theorem cells_kept {w w' : World} (h : Below w.heap.size w w') {a : Addr} {v : Value} (e : w.cell? a = some v) : w'.cell? a = some v :=
  (h.cell (p := a) (lt_of_cell e)).trans e

attribute [local irreducible] wpTake wpChain

set_option maxHeartbeats 1000000 in
set_option maxRecDepth 100000 in
theorem clone_core {w : World} (p bb mp mw n cap : Nat) (off : Bool) (x : Int) (hn : 1 ≤ n) (hn2 : n ≤ 4096) (c : Array Value) (hb : w.heap[bb]? = some (.cells c 70 (0, 0))) (hc : n * 64 ≤ c.size) (h1 : Hid (∀ j, j < n * 64 → ∃ v, c[j]? = some v ∧ v.oneCell' = true))
    (es ew : Array MapEntry) (ke kw : Nat) (hm : w.heap[mp]? = some (.map es ke)) (hw : w.heap[mw]? = some (.map ew kw))
    (c0 : w.cell? ⟨p, 0, none⟩ = some (.slice (some ⟨bb, 0, none⟩) n cap)) (c1 : w.cell? ⟨p, 1, none⟩ = some (.map (some mp))) (c2 : w.cell? ⟨p, 2, none⟩ = some (.map (some mw))) (c3 : w.cell? ⟨p, 3, none⟩ = some (.bool off)) (c4 : w.cell? ⟨p, 4, none⟩ = some (.int .i64 x)) :
    Calls Try.prog 26 #[.pointer (some ⟨p, 0, none⟩)] w fun e w' => ∃ W3 g cap' c', e = .returned (.pointer (some ⟨W3.heap.size + 2, 0, none⟩)) ∧ Below w.heap.size w W3 ∧ w.heap.size ≤ g ∧ W3.heap[g]? = some (.cells c' 70 (0, 0)) ∧ (∀ j, j < n * 64 → c'[j]? = c[j]?) ∧
      w' = ((W3.alloc (.map es ke)).alloc (.map ew kw)).alloc (.cells #[.slice (some ⟨g, 0, none⟩) n cap', .map (some W3.heap.size), .map (some (W3.heap.size + 1)), .bool off, .int .i64 x] 67) := by
  have hS := And.intro c0 (And.intro c1 (And.intro c2 (And.intro c3 c4)))
  have HS := Lib.hid hS
  have HB := Lib.hid hb
  have HC := Lib.hid hc
  have HM := Lib.hid hm
  have HW := Lib.hid hw
  clear hS hb hc hm hw c0 c1 c2 c3 c4
  go_enter Try.func26, Try.ntmps26
  go_wp2
  refine wp_region_mix (fun W => W.cell? ⟨p, 0, none⟩ = some (.slice (some ⟨bb, 0, none⟩) n cap) ∧ W.cell? ⟨p, 1, none⟩ = some (.map (some mp)) ∧ W.cell? ⟨p, 2, none⟩ = some (.map (some mw)) ∧ W.cell? ⟨p, 3, none⟩ = some (.bool off) ∧ W.cell? ⟨p, 4, none⟩ = some (.int .i64 x))
    [0, 1, 2, 3, 5, 6, 7, 8, 10, 11, 12, 13, 15, 16, 17, 18, 19, 20, 21, 22] [4, 9, 14, 23, 24, 25] (by kernel_rfl) (by kernel_rfl) HS.out ?_
  simp only [pickOps, List.filterMap_cons, List.filterMap_nil, List.getElem?_toArray, List.getElem?_cons_zero, List.getElem?_cons_succ]
  repeat (apply wpTake_go rfl; (focus (rintro W ⟨c0, c1, c2, c3, c4⟩; go_simp; rfl)); intro K' hK; go_simp; refine hK _ ?_; clear hK K')
  refine wpTake_nil ?_
  refine wpChain_go rfl (fun K' hK => ?_)
  go_simp
  refine (sclone_any (w := w.drew) bb n cap hn hn2 c HB.out HC.out h1.out).mono ?_
  rintro e W3 ⟨g, cap', c', rfl, hg, hgc, hcc, hbel⟩
  have hb3 : Below w.heap.size w W3 := ⟨hbel.os, hbel.tape, hbel.output, hbel.size, hbel.block⟩
  have hS3 : W3.cell? ⟨p, 0, none⟩ = some (.slice (some ⟨bb, 0, none⟩) n cap) ∧ W3.cell? ⟨p, 1, none⟩ = some (.map (some mp)) ∧ W3.cell? ⟨p, 2, none⟩ = some (.map (some mw)) ∧ W3.cell? ⟨p, 3, none⟩ = some (.bool off) ∧ W3.cell? ⟨p, 4, none⟩ = some (.int .i64 x) := by
    obtain ⟨c0, c1, c2, c3, c4⟩ := HS.out
    exact ⟨cells_kept hb3 c0, cells_kept hb3 c1, cells_kept hb3 c2, cells_kept hb3 c3, cells_kept hb3 c4⟩
  have hm3 : W3.heap[mp]? = some (.map es ke) := (hb3.block mp (lt_of_heap HM.out)).trans HM.out
  have hw3 : W3.heap[mw]? = some (.map ew kw) := (hb3.block mw (lt_of_heap HW.out)).trans HW.out
  have hfin : ∃ W3 g cap' c', (.returned (.pointer (some ⟨W3.heap.size + 2, 0, none⟩)) : Ending) = .returned (.pointer (some ⟨W3.heap.size + 2, 0, none⟩)) ∧ Below w.heap.size w W3 ∧ w.heap.size ≤ g ∧ W3.heap[g]? = some (.cells c' 70 (0, 0)) ∧ (∀ j, j < n * 64 → c'[j]? = c[j]?) := ⟨W3, g, cap', c', rfl, hb3, hg, hgc, hcc⟩
  refine hK _ _ ⟨hS3, ?_⟩
  clear hK K'
  have HF : Hid (Below w.heap.size w W3 ∧ w.heap.size ≤ g ∧ W3.heap[g]? = some (.cells c' 70 (0, 0)) ∧ (∀ j, j < n * 64 → c'[j]? = c[j]?)) := ⟨hb3, hg, hgc, hcc⟩
  have HS3 := Lib.hid hS3
  have HM3 := Lib.hid hm3
  have HW3 := Lib.hid hw3
  clear hfin hS3 hm3 hw3 hbel hb3 hg hgc hcc HS HB HC HM HW h1
  refine wpChain_go rfl (fun K' hK => ?_)
  go_simp
  refine (mcloneB_any mp es ke HM3.out).mono ?_
  rintro e W4 ⟨rfl, rfl⟩
  have hS4 : (W3.alloc (.map es ke)).cell? ⟨p, 0, none⟩ = some (.slice (some ⟨bb, 0, none⟩) n cap) ∧ (W3.alloc (.map es ke)).cell? ⟨p, 1, none⟩ = some (.map (some mp)) ∧ (W3.alloc (.map es ke)).cell? ⟨p, 2, none⟩ = some (.map (some mw)) ∧ (W3.alloc (.map es ke)).cell? ⟨p, 3, none⟩ = some (.bool off) ∧ (W3.alloc (.map es ke)).cell? ⟨p, 4, none⟩ = some (.int .i64 x) := by
    obtain ⟨c0, c1, c2, c3, c4⟩ := HS3.out
    have hb4 : Below W3.heap.size W3 (W3.alloc (.map es ke)) := (Below.refl _ _).alloc (Nat.le_refl _) _
    exact ⟨cells_kept hb4 c0, cells_kept hb4 c1, cells_kept hb4 c2, cells_kept hb4 c3, cells_kept hb4 c4⟩
  refine hK _ _ ⟨hS4, ?_⟩
  clear hK K'
  have HS4 := Lib.hid hS4
  have HW4 : Hid ((W3.alloc (.map es ke)).heap[mw]? = some (.map ew kw)) := (heap_alloc_lt _ _ _ (lt_of_heap HW3.out)).trans HW3.out
  clear hS4 HS3 HM3 HW3
  refine wpChain_go rfl (fun K' hK => ?_)
  go_simp
  refine (mcloneW_any mw ew kw HW4.out).mono ?_
  rintro e W5 ⟨rfl, rfl⟩
  have hS5 : ((W3.alloc (.map es ke)).alloc (.map ew kw)).cell? ⟨p, 0, none⟩ = some (.slice (some ⟨bb, 0, none⟩) n cap) ∧ ((W3.alloc (.map es ke)).alloc (.map ew kw)).cell? ⟨p, 1, none⟩ = some (.map (some mp)) ∧ ((W3.alloc (.map es ke)).alloc (.map ew kw)).cell? ⟨p, 2, none⟩ = some (.map (some mw)) ∧ ((W3.alloc (.map es ke)).alloc (.map ew kw)).cell? ⟨p, 3, none⟩ = some (.bool off) ∧ ((W3.alloc (.map es ke)).alloc (.map ew kw)).cell? ⟨p, 4, none⟩ = some (.int .i64 x) := by
    obtain ⟨c0, c1, c2, c3, c4⟩ := HS4.out
    have hb4 : Below (W3.alloc (.map es ke)).heap.size (W3.alloc (.map es ke)) ((W3.alloc (.map es ke)).alloc (.map ew kw)) := (Below.refl _ _).alloc (Nat.le_refl _) _
    exact ⟨cells_kept hb4 c0, cells_kept hb4 c1, cells_kept hb4 c2, cells_kept hb4 c3, cells_kept hb4 c4⟩
  refine hK _ _ ⟨hS5, ?_⟩
  clear hK K'
  have HS5 := Lib.hid hS5
  clear hS5 HS4 HW4
  refine wpChain_go rfl (fun K' hK => ?_)
  go_simp
  refine hK _ _ ⟨HS5.out, ?_⟩
  clear hK K'
  refine wpChain_go rfl (fun K' hK => ?_)
  go_simp
  refine hK _ _ ⟨?s6, ?_⟩
  case s6 =>
    obtain ⟨c0, c1, c2, c3, c4⟩ := HS5.out
    exact ⟨cells_kept ((Below.refl _ _).alloc (Nat.le_refl _) _) c0, cells_kept ((Below.refl _ _).alloc (Nat.le_refl _) _) c1, cells_kept ((Below.refl _ _).alloc (Nat.le_refl _) _) c2, cells_kept ((Below.refl _ _).alloc (Nat.le_refl _) _) c3, cells_kept ((Below.refl _ _).alloc (Nat.le_refl _) _) c4⟩
  clear hK K'
  refine wpChain_go rfl (fun K' hK => ?_)
  go_simp
  refine hK _ _ ⟨?s7, ?_⟩
  case s7 =>
    obtain ⟨c0, c1, c2, c3, c4⟩ := HS5.out
    exact ⟨cells_kept ((Below.refl _ _).alloc (Nat.le_refl _) _) c0, cells_kept ((Below.refl _ _).alloc (Nat.le_refl _) _) c1, cells_kept ((Below.refl _ _).alloc (Nat.le_refl _) _) c2, cells_kept ((Below.refl _ _).alloc (Nat.le_refl _) _) c3, cells_kept ((Below.refl _ _).alloc (Nat.le_refl _) _) c4⟩
  clear hK K' HS5
  refine wpChain_nil ?_
  go_wp2
  refine bodyPost_ret (results_tmp rfl _ _ _) rfl ⟨W3, g, cap', c', rfl, HF.out.1, HF.out.2.1, HF.out.2.2.1, HF.out.2.2.2, rfl⟩

theorem clone_any {w : World} {f : DF} {D : DS} (h : DiskAt w f D) :
    Calls Try.prog 26 #[.pointer (some ⟨f.p, 0, none⟩)] w fun e w' => ∃ f' : DF, e = .returned (.pointer (some ⟨f'.p, 0, none⟩)) ∧ DiskAt w' f' D ∧ Below w.heap.size w w' ∧ ∀ b ∈ f'.blks, w.heap.size ≤ b := by
  obtain ⟨c, x, lp, lw, cap, h⟩ := h
  have h0 := cell_blk h.hp 0
  have h1 := cell_blk h.hp 1
  have h2 := cell_blk h.hp 2
  have h3 := cell_blk h.hp 3
  have h4 := cell_blk h.hp 4
  simp at h0 h1 h2 h3 h4
  obtain ⟨es, ke, hm, hem, hsm⟩ := h.hm
  obtain ⟨ew, kw, hw, hew, hsw⟩ := h.hw
  have hone : ∀ j, j < D.s.length * 64 → ∃ v, c[j]? = some v ∧ v.oneCell' = true := by
    intro j hj
    have hk : j / 64 < D.s.length := by omega
    have := h.hc (j / 64) hk (j % 64) (Nat.mod_lt _ (by omega))
    rw [show j / 64 * 64 + j % 64 = j by omega] at this
    have hl : j % 64 < (D.sec (j / 64)).text.length := by rw [(sec_ok h.ok hk).1]; exact Nat.mod_lt _ (by omega)
    refine ⟨byteV (D.sec (j / 64)).text[j % 64], ?_, rfl⟩
    rw [this]
    simp [byteVs, hl]
  have hsz : D.s.length * 64 ≤ c.size := by
    have hl : 0 < D.s.length := by have := h.one; omega
    obtain ⟨v, hv, _⟩ := hone (D.s.length * 64 - 1) (by omega)
    have := (Array.getElem?_eq_some_iff.1 hv).1
    omega
  refine (clone_core f.p f.bb f.mp f.mw D.s.length cap D.off x h.one h.few c h.hb hsz hone es ew ke kw hm hw h0 h1 h2 h3 h4).mono ?_
  rintro e w' ⟨W3, g, cap', c', rfl, hb, hg, hgc, hcc, rfl⟩
  have hgl := lt_of_heap hgc
  have hsize := hb.size
  refine ⟨⟨W3.heap.size + 2, g, W3.heap.size, W3.heap.size + 1⟩, rfl, ?_, ?_, ?_⟩
  · refine ⟨c', x, lp, lw, cap', { hp := heap_alloc_at _ _ _ (by simp), hx := h.hx, hx2 := h.hx2, hb := ?_, hc := ?_, hm := ⟨es, ke, ?_, hem, hsm⟩, hpend := h.hpend, hw := ⟨ew, kw, ?_, hew, hsw⟩, hworn := h.hworn, ok := h.ok, one := h.one, few := h.few, pb := ?_, pm := ?_, pw := ?_, bm := ?_, bw := ?_, mw := ?_ }⟩
    · show (((W3.alloc (.map es ke)).alloc (.map ew kw)).alloc _).heap[g]? = _
      rw [heap_alloc_lt _ _ _ (by simp; omega), heap_alloc_lt _ _ _ (by simp; omega), heap_alloc_lt _ _ _ hgl]
      exact hgc
    · intro i hi j hj
      rw [hcc _ (by omega)]
      exact h.hc i hi j hj
    · show (((W3.alloc (.map es ke)).alloc (.map ew kw)).alloc _).heap[W3.heap.size]? = _
      rw [heap_alloc_lt _ _ _ (by simp; omega), heap_alloc_lt _ _ _ (by simp)]
      exact heap_alloc_at _ _ _ rfl
    · show (((W3.alloc (.map es ke)).alloc (.map ew kw)).alloc _).heap[W3.heap.size + 1]? = _
      rw [heap_alloc_lt _ _ _ (by simp)]
      exact heap_alloc_at _ _ _ (by simp)
    all_goals simp only [ne_eq]; omega
  · exact ((hb.alloc hsize _).alloc (by simp; omega) _).alloc (by simp; omega) _
  · intro b hb
    simp [DF.blks] at hb
    omega
end Go.Proofs.Ytoefpnmfeaimlaa
