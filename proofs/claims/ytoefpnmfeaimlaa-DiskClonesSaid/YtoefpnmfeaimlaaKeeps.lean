/- What DiskKeepsWhatWasFlushed computes: it answers true. -/
import Derived.Test.YtoefpnmfeaimlaaArgs
import Derived.Test.YtoefpnmfeaimlaaStart
import Derived.Test.YtoefpnmfeaimlaaSanity
import Derived.Test.YtoefpnmfeaimlaaPlain2
namespace Go.Proofs.Ytoefpnmfeaimlaa
open Go.RowKit Dk

set_option maxRecDepth 100000 in
theorem keeps_none {w : World} (n : Int) (hn : n < 1 ∨ 64 < n) (a : Option Addr) (len : Nat) (cap : Nat) (pv : Value) :
    Calls Try.prog 4 #[.int .i64 n, .slice a len cap, pv] w fun e W' => e = .returned (.bool true) ∧ Below w.heap.size w W' := by
  rcases hn with hn | hn
  case' inr => have hn1 : 1 ≤ n := by omega
  all_goals
    go_enter Try.func4, Try.ntmps4
    go_wp2_with fail
    go_at_call 8
    refine sanity_any.mono ?_
    rintro e W0 ⟨rfl, hb⟩
    have B0 := Lib.hid hb
    clear hb
    go_wp2_with fail
    go_at_call 19
    refine (start_none n (by omega)).mono ?_
    rintro e W1 ⟨rfl, rfl⟩
    go_wp2
    go_ret
    exact ⟨rfl, B0.out⟩

set_option maxRecDepth 100000 in
theorem keeps_long {w : World} (n : Nat) (hn : (1 : Int) ≤ n) (hn2 : (n : Int) ≤ 64) (a : Option Addr) (len : Nat) (hl : (60 : Int) < len) (cap : Nat) (pv : Value) :
    Calls Try.prog 4 #[.int .i64 n, .slice a len cap, pv] w fun e W' => e = .returned (.bool true) ∧ Below w.heap.size w W' := by
  go_enter Try.func4, Try.ntmps4
  go_wp2_with fail
  go_at_call 8
  refine sanity_any.mono ?_
  rintro e W0 ⟨rfl, hb⟩
  have B0 := Lib.hid hb
  clear hb
  go_wp2_with fail
  go_at_call 19
  refine (start_any B0.out n hn hn2).mono ?_
  rintro e W1 ⟨f, r, rfl, hd, -, -, -⟩
  have HD := Lib.hid hd
  clear hd
  go_wp2
  go_ret
  exact ⟨rfl, HD.out.below⟩

theorem Fr.setCell {S : List Nat} {a b : World} (h : Fr S a b) {p : Addr} (hp : p.block ∈ S ∨ a.heap.size ≤ p.block) (u : Value) : Fr S a (b.setCell p u) := by
  have k := (Below.refl 0 b).setCell (p := p) (Nat.zero_le _) u
  refine ⟨k.os.trans h.os, k.tape.trans h.tape, k.output.trans h.output, Nat.le_trans h.size k.size, fun i hi hs => ?_⟩
  rw [Below.heap_setCell _ _ _ _ (fun e => by subst e; rcases hp with hp | hp <;> first | exact hs hp | omega)]
  exact h.block i hi hs

/-- Block L holds the n texts l. -/
def Row (W : World) (L : Nat) (l : List (List UInt8)) : Prop := ∃ cs : Array Value, W.heap[L]? = some (.cells cs 9 (0, 0)) ∧ ∀ (i : Nat) (x : List UInt8), l[i]? = some x → cs[i]? = some (strV x)
theorem Row.fr {W W' : World} {L : Nat} {l : List (List UInt8)} (h : Row W L l) {S : List Nat} (k : Fr S W W') (hL : L ∉ S) : Row W' L l := by
  obtain ⟨cs, hc, h⟩ := h
  exact ⟨cs, (k.block L (lt_of_heap hc) hL).trans hc, h⟩
theorem Row.strs {W : World} {L : Nat} {l : List (List UInt8)} (h : Row W L l) {S : List Nat} (hL : L ∉ S) (cap : Nat) : StrsIn W S (.slice (some ⟨L, 0, none⟩) l.length cap) l := by
  obtain ⟨cs, hc, h⟩ := h
  exact .inr ⟨L, 0, cap, rfl, hL, fun j x hx => by rw [cell_blk hc, Nat.zero_add]; exact h j x hx⟩
theorem Row.put {W : World} {L : Nat} {l : List (List UInt8)} (h : Row W L l) (i : Nat) (x : List UInt8) : Row (W.setCell ⟨L, i, none⟩ (strV x)) L (l.set i x) := by
  obtain ⟨cs, hc, h⟩ := h
  rw [setCell_put _ _ _ _ _ _ _ hc]
  refine ⟨_, heap_put_same _ _ _ (lt_of_heap hc), fun j y hy => ?_⟩
  rw [List.getElem?_set] at hy
  rw [Array.getElem?_setIfInBounds]
  by_cases e : i = j
  · subst e
    rw [if_pos rfl] at hy ⊢
    split at hy
    · rename_i hlt
      cases hy
      have := h i _ (List.getElem?_eq_getElem hlt)
      rw [if_pos (Array.getElem?_eq_some_iff.1 this).1]
    · cases hy
  · rw [if_neg e] at hy ⊢
    exact h j y hy
theorem Row.cell {W : World} {L : Nat} {l : List (List UInt8)} (h : Row W L l) {i : Nat} {x : List UInt8} (hx : l[i]? = some x) : W.cell? ⟨L, i, none⟩ = some (.string ⟨x.toArray⟩) := by
  obtain ⟨cs, hc, h⟩ := h
  rw [cell_blk hc]
  exact h i x hx
theorem Row.free {W : World} {L : Nat} {l : List (List UInt8)} (h : Row W L l) (i : Nat) : W.frozen? ⟨L, i, none⟩ = false := by
  obtain ⟨cs, hc, h⟩ := h
  exact free_blk hc i
theorem Row.lt {W : World} {L : Nat} {l : List (List UInt8)} (h : Row W L l) : L < W.heap.size := by
  obtain ⟨cs, hc, h⟩ := h
  exact lt_of_heap hc

/-- n texts of which the first j are full. -/
def fulls (n j : Nat) : List (List UInt8) := (List.range n).map fun i => if i < j then zero64 else []
theorem fulls_len (n j : Nat) : (fulls n j).length = n := by simp [fulls]
theorem fulls_at (n j i : Nat) (h : i < n) : (fulls n j)[i]? = some (if i < j then zero64 else []) := by simp [fulls, h]
theorem fulls_set (n j : Nat) : (fulls n j).set j zero64 = fulls n (j + 1) := by
  apply List.ext_getElem?
  intro i
  by_cases h : i < n
  · rw [List.getElem?_set, fulls_len, fulls_at n _ i h, fulls_at n _ i h]
    by_cases e : j = i
    · subst e; rw [if_pos rfl, if_pos h, if_pos (by omega)]
    · rw [if_neg e]
      by_cases h2 : i < j
      · rw [if_pos h2, if_pos (by omega)]
      · rw [if_neg h2, if_neg (by omega)]
  · rw [List.getElem?_eq_none (by rw [List.length_set, fulls_len]; omega), List.getElem?_eq_none (by rw [fulls_len]; omega)]
theorem fulls_all (n : Nat) : fulls n n = List.replicate n zero64 := by
  apply List.ext_getElem?
  intro i
  by_cases h : i < n
  · rw [fulls_at n _ i h, if_pos h, List.getElem?_replicate, if_pos h]
  · rw [List.getElem?_eq_none (by rw [fulls_len]; omega), List.getElem?_eq_none (by rw [List.length_replicate]; omega)]

theorem keep_other {D : DS} {t : List (List UInt8)} (h : Keep D t) (o : OpD) (h1 : o.kind ≠ 1) (h4 : o.kind ≠ 4) (h5 : o.kind ≠ 5) (h6 : o.kind ≠ 6) (h7 : o.kind ≠ 7) : Keep (D.doOp o) t ∧ (D.doOp o).s.length = D.s.length := by
  have hl := h.len
  have hk : Keep (D.doOp o) t := by
    unfold DS.doOp
    simp only [h1, h4, h5, h6, h7, if_false]
    split
    · exact h
    · split
      · exact (keep_flush h).2.1
      · exact h
  exact ⟨hk, hk.len.symm.trans hl⟩

attribute [local irreducible] wpMixN

set_option maxHeartbeats 2000000 in
set_option maxRecDepth 100000 in
theorem keeps_core {w : World} (n : Nat) (hn : (1 : Int) ≤ n) (hn2 : (n : Int) ≤ 64) (a : Option Addr) (l : List OpD) (hl : (l.length : Int) ≤ 60) (cap : Nat) (ho : Hid (OpsIn w (.slice a l.length cap) l))
    (pa : Option Addr) (picks : List Int) (pc : Nat) (hp : Hid (IntsIn w [] (.slice pa picks.length pc) picks)) (zc : Array Value)
    (hmk : ∀ W : World, (Instr.makeSlice 27 (.int .i64 n) (.int .i64 n)).run Try.prog W = .ok (.slice (some ⟨W.heap.size, 0, none⟩) n n) (W.alloc (.cells zc 9))) (hzc : Hid (∀ j, j < n → zc[j]? = some (strV []))) :
    Calls Try.prog 4 #[.int .i64 n, .slice a l.length cap, .slice pa picks.length pc] w fun e W' => e = .returned (.bool true) ∧ Below w.heap.size w W' := by
  go_enter Try.func4, Try.ntmps4
  go_wp2_with fail
  go_at_call 8
  refine sanity_any.mono ?_
  rintro e W0 ⟨rfl, hb⟩
  have B0 := Lib.hid hb
  clear hb
  go_wp2_with fail
  go_at_call 19
  refine (start_any B0.out n hn hn2).mono ?_
  rintro e W1 ⟨f, r, rfl, hd, -, -, -⟩
  have HD := Lib.hid hd
  clear hd
  have HN := Lib.hid hn
  go_wp2
  have HL : Hid (W1.heap.size ∉ f.blks ∧ w.heap.size ≤ W1.heap.size) := ⟨fun h => by have := HD.out.1.lt _ h; omega, HD.out.2.1.size⟩
  go_loopw [12] (fun iv wr => ∃ j : Nat, j ≤ n ∧ iv = .int .i64 j ∧ Row wr W1.heap.size (fulls n j) ∧ Dsk w wr f (DS.new n)) (fun iv _ => n - (intOf iv).toNat)
  case atStart =>
    refine ⟨0, Nat.zero_le _, rfl, ⟨zc, heap_alloc_last _ _, fun i x hx => ?_⟩, HD.out.quiet ((Fr.refl _ _).alloc _)⟩
    have hi : i < n := by have := (List.getElem?_eq_some_iff.1 hx).1; rw [fulls_len] at this; exact this
    rw [fulls_at n 0 i hi, if_neg (by omega)] at hx
    cases hx
    exact hzc.out i hi
  case round =>
    obtain ⟨j, hj, rfl, hrow, hd⟩ := hrel
    have HR := Lib.hid hrow
    have HDr := Lib.hid hd
    clear hrow hd
    by_cases hlt : j < n
    · have hjn : (j : Int) < n := by omega
      go_wp2_with fail
      go_at_call 13
      refine (d_full 0 0 rfl (s := zero64) rfl).mono ?_
      rintro e W2 ⟨rfl, hf⟩
      have hr2 := HR.out.fr hf (by simp)
      have hx : (fulls n j)[j]? = some [] := by rw [fulls_at n j j hlt, if_neg (by omega)]
      have c2 := hr2.cell hx
      have f2 := hr2.free j
      have HD2 := Lib.hid (HDr.out.quiet hf)
      clear hf HR HDr hx
      have hput := hr2.put j zero64
      rw [fulls_set] at hput
      have HP := Lib.hid hput
      clear hr2 hput
      unfold strV at HP ⊢
      generalize zero64 = zz at HP ⊢
      go_wp2
      go_roundw
      case rel => exact ⟨j + 1, by omega, by go_num, HP.out, HD2.out.other (S := [W1.heap.size]) ((Fr.refl _ _).setCell (by simp) _) (by simpa using HL.out.2) (fun b hb => by simp; intro e; subst e; exact HL.out.1 hb)⟩
      case measure => simp [intOf]; omega
    · obtain rfl : j = n := by omega
      rw [fulls_all] at HR
      clear hmk hzc hlt hj
      go_wp2
      go_loopw [13] (fun iv wr => ∃ (i : Nat) (D : DS) (t : List (List UInt8)), i ≤ l.length ∧ iv = .int .i64 i ∧ Row wr W1.heap.size t ∧ Dsk w wr f D ∧ Keep D t ∧ D.s.length = j) (fun iv _ => l.length - (intOf iv).toNat)
      case atStart => exact ⟨0, DS.new j, _, Nat.zero_le _, rfl, HR.out, HDr.out, keep_new j, new_len j⟩
      case round =>
        clear HR HDr HD
        obtain ⟨i, D, t, hi, rfl, hrow, hd, hk, hDn⟩ := hrel
        have HR := Lib.hid hrow
        have HD := Lib.hid hd
        have HK := Lib.hid hk
        have HDN := Lib.hid hDn
        clear hrow hd hk hDn
        by_cases hlt : i < l.length
        · have hin : (i : Int) < l.length := by omega
          obtain ⟨b, o, c1, e1⟩ := ho.out.place (by intro e; rw [e] at hlt; simp at hlt)
          have e3 := (Value.slice.inj e1).1
          clear e1
          subst e3
          obtain ⟨xa, xc, ⟨d0, d1, d2, d3, d4⟩, hpk, hxi⟩ := ho.out.at HD.out.below (List.getElem?_eq_getElem hlt)
          generalize l[i] = x at *
          obtain ⟨kind, xi, bit, text, xpicks⟩ := x
          simp only at d0 d1 d2 d3 d4 hpk hxi
          have HPK := Lib.hid hpk
          have HXI := Lib.hid hxi
          clear hpk hxi
          have hnot : wr.heap.size ∉ f.blks := fun h => by have := HD.out.1.lt _ h; omega
          have HNOT := Lib.hid hnot
          clear hnot
          have hcc : (kind = 6 ∨ kind = 7 ∨ kind = 4 ∨ kind = 5) ∨ ((kind == 6) = false ∧ (kind == 7) = false ∧ (kind == 4) = false ∧ (kind == 5) = false) := by
            simp only [beq_eq_false_iff_ne]
            omega
          rcases hcc with hc | ⟨h6, h7, h4, h5⟩
          · rcases hc with rfl | rfl | rfl | rfl
            all_goals
              go_wp2
              go_roundw
              case rel => exact ⟨i + 1, D, t, by omega, by go_num, HR.out.fr ((Fr.refl [] _).alloc _) (by simp), HD.out.quiet ((Fr.refl _ _).alloc _), HK.out, HDN.out⟩
              case measure => simp [intOf]; omega
          · by_cases h1 : kind = 1
            · subst h1
              clear h6 h7 h4 h5
              have HX : Hid (Dsk w (wr.alloc (.cells #[.int .i64 1, .int .i64 xi, .int .i64 bit, .string ⟨text.toArray⟩, .slice xa xpicks.length xc] 44)) f D) := HD.out.quiet ((Fr.refl [] wr).alloc _)
              go_wp2_with fail
              go_at_call 20
              refine (do_any HX.out ⟨1, xi, bit, text, xpicks⟩ (.slice xa xpicks.length xc) (HPK.out.late HX.out.below HX.out.2.2) HXI.out).mono ?_
              rintro e W2 ⟨rfl, hd2, hf2⟩
              have hbx := (hf2.block wr.heap.size (by simp) HNOT.out).trans (heap_alloc_last wr _)
              have b0 := cell_blk hbx 0
              have hr2 := (HR.out.fr ((Fr.refl [] _).alloc _) (by simp)).fr hf2 HL.out.1
              have hw2 : wr.heap.size < W2.heap.size := lt_of_heap hbx
              have HD2 := Lib.hid hd2
              have HR2 := Lib.hid hr2
              have HBX := Lib.hid hbx
              have HW2 := Lib.hid hw2
              have HLr := Lib.hid HR.out.lt
              clear hbx hd2 hf2 hr2 hw2
              have er : D.doR ⟨1, xi, bit, text, xpicks⟩ = ([], D.writeE xi (padTo text)) := by simp [DS.doR]
              have ed : D.doOp ⟨1, xi, bit, text, xpicks⟩ = D.write xi (padTo text) := by simp [DS.doOp]
              rw [ed] at HD2
              rw [er]
              by_cases hz : D.writeE xi (padTo text) = 0
              · have hkw := keep_write HK.out hz
                rw [hz]
                obtain ⟨⟨hx0, hx1⟩, hkw⟩ := hkw
                obtain ⟨q, rfl⟩ := Int.eq_ofNat_of_zero_le hx0
                have hqj : (q : Int) < j := by rw [← HDN.out]; exact hx1
                have HKW := Lib.hid hkw
                clear hkw hx0 hx1 hz er ed
                unfold strV
                go_wp2
                have hBd : W2.drew.heap[wr.heap.size]? = some (.cells #[.int .i64 1, .int .i64 q, .int .i64 bit, .string ⟨text.toArray⟩, .slice xa xpicks.length xc] 44 (0, 0)) := HBX.out
                have BD := Lib.hid hBd
                have hrd : Row W2.drew W1.heap.size t := HR2.out
                have RD := Lib.hid hrd
                clear hBd hrd b0
                refine wp_region_mixesN (fun W => W.heap[wr.heap.size]? = some (.cells #[.int .i64 1, .int .i64 q, .int .i64 bit, .string ⟨text.toArray⟩, .slice xa xpicks.length xc] 44 (0, 0))) [5, 6]
                  [(true, 0), (true, 1), (true, 2), (true, 3), (false, 4), (false, 5), (false, 6)] (by kernel_rfl) (by kernel_rfl) ?_
                repeat (apply wpMixN_take rfl rfl BD.out; (focus (rintro w d; have d0 := cell_blk d 0; have d1 := cell_blk d 1; have d2 := cell_blk d 2; have d3 := cell_blk d 3; have d4 := cell_blk d 4; go_simp; rfl)); intro K' hK; go_simp; refine hK _ _ ?_; clear hK K')
                refine wpMixN_go rfl rfl (fun K' hK => ?_)
                go_simp
                refine (text_any 1 q bit text xa xpicks.length xc).mono ?_
                rintro e W3 ⟨rfl, h3⟩
                have hb3 := (h3.block wr.heap.size (lt_of_heap BD.out)).trans BD.out
                have hr3 := RD.out.fr (Fr.of_below (S := []) h3) (by simp)
                have hd3 := (HD2.out.quiet (W' := W2.drew) ((Fr.refl _ _).drew)).quiet (Fr.of_below h3)
                obtain ⟨y, hy⟩ : ∃ y, t[q]? = some y := ⟨_, List.getElem?_eq_getElem (by have := HK.out.len; have := HDN.out; omega)⟩
                have c3 := hr3.cell hy
                have f3 := hr3.free q
                have hp3 := hr3.put q (padTo text)
                have B3 := Lib.hid hb3
                have R3 := Lib.hid hp3
                have D3 := Lib.hid hd3
                clear hb3 hr3 hd3 hp3 hy h3 BD RD
                refine hK _ _ ⟨fun _ => B3.out, ?_⟩
                clear hK K'
                unfold strV at R3 ⊢
                generalize padTo text = pt at *
                refine wpMixN_go rfl rfl (fun K' hK => ?_)
                go_simp
                refine hK _ _ ⟨(fun h => by cases h), ?_⟩
                clear hK K'
                refine wpMixN_go rfl rfl (fun K' hK => ?_)
                go_simp
                refine hK _ _ ⟨(fun h => by cases h), ?_⟩
                clear hK K'
                refine wpMixN_nil ?_
                go_wp2
                go_roundw
                case rel => exact ⟨i + 1, _, _, by omega, by go_num, R3.out, D3.out.other (S := [W1.heap.size]) ((Fr.refl _ _).setCell (by simp) _) (by simpa using HL.out.2) (fun b hb => by simp; intro e; subst e; exact HL.out.1 hb), HKW.out, by have := HKW.out.len; rw [List.length_set, HK.out.len, HDN.out] at this; exact this.symm⟩
                case measure => simp [intOf]; omega
              · have hzb : (D.writeE xi (padTo text) == 0) = false := by simpa using hz
                have hno := keep_no HK.out hz
                rw [hno] at HD2
                clear hz hno er ed
                unfold strV
                go_wp2
                go_roundw
                case rel => exact ⟨i + 1, D, t, by omega, by go_num, HR2.out, HD2.out, HK.out, HDN.out⟩
                case measure => simp [intOf]; omega
            · have h1b : (kind == 1) = false := by simpa using h1
              have hko := keep_other HK.out ⟨kind, xi, bit, text, xpicks⟩ h1 (by simpa using h4) (by simpa using h5) (by simpa using h6) (by simpa using h7)
              have HKO := Lib.hid hko
              clear hko h1
              go_wp2_with fail
              go_at_call 20
              refine (do_any (HD.out.quiet ((Fr.refl [] wr).alloc _)) ⟨kind, xi, bit, text, xpicks⟩ _ (HPK.out.late (HD.out.quiet ((Fr.refl [] wr).alloc _)).below HD.out.2.2) HXI.out).mono ?_
              rintro e W2 ⟨rfl, hd2, hf2⟩
              have hbx := (hf2.block wr.heap.size (by simp) HNOT.out).trans (heap_alloc_last wr _)
              have b0 := cell_blk hbx 0
              have hr2 := (HR.out.fr ((Fr.refl [] _).alloc _) (by simp)).fr hf2 HL.out.1
              have HD2 := Lib.hid hd2
              have HR2 := Lib.hid hr2
              clear hbx hd2 hf2 hr2
              generalize D.doR ⟨kind, xi, bit, text, xpicks⟩ = res
              unfold strV
              go_wp2
              go_roundw
              case rel => exact ⟨i + 1, _, t, by omega, by go_num, HR2.out, HD2.out, HKO.out.1, HKO.out.2.trans HDN.out⟩
              case measure => simp [intOf]; omega
        · obtain rfl : i = l.length := by omega
          obtain ⟨e1, hk2, hi1, hi2⟩ := keep_flush HK.out
          have HI1 := Lib.hid hi1
          have HI2 := Lib.hid (hi2 picks)
          have HT := Lib.hid (HK.out.len)
          clear hi1 hi2 hk2 ho hlt hi
          go_wp2_with fail
          go_at_call 22
          refine (d_flush HD.out e1 rfl).mono ?_
          rintro e W2 ⟨rfl, hd2, hf2⟩
          have HR2 := Lib.hid (HR.out.fr hf2 HL.out.1)
          have HD2 := Lib.hid hd2
          clear hd2 hf2 HR HD e1
          go_wp2_with fail
          go_at_call 10
          refine (d_image HD2.out HI1.out).mono ?_
          rintro e W3 ⟨v3, rfl, hv3, hf3⟩
          have HR3 := Lib.hid (HR2.out.fr hf3 (by simp))
          have HD3 := Lib.hid (HD2.out.quiet hf3)
          have T3 := Lib.hid (texts_any (hv3.inn (S := []) (by simp)) (HR3.out.strs (S := []) (by simp) j) (by have := HT.out; have := HDN.out; omega))
          clear hf3 hv3 HR2 HD2
          rw [HT.out, HDN.out] at T3
          go_wp2_with fail
          go_at_call 16
          refine T3.out.mono ?_
          rintro e W4 ⟨rfl, hf4⟩
          simp only [decide_true]
          have HR4 := Lib.hid (HR3.out.fr hf4 (by simp))
          have HD4 := Lib.hid (HD3.out.quiet hf4)
          clear hf4 HR3 HD3 T3
          go_wp2_with fail
          go_at_call 23
          refine (d_mount HD4.out (hp.out.late HD4.out.below HD4.out.2.2) rfl).mono ?_
          rintro e W5 ⟨rfl, hd5, hf5⟩
          have HR5 := Lib.hid (HR4.out.fr hf5 HL.out.1)
          have HD5 := Lib.hid hd5
          clear hd5 hf5 HR4 HD4
          go_wp2_with fail
          go_at_call 10
          refine (d_image HD5.out HI2.out).mono ?_
          rintro e W6 ⟨v6, rfl, hv6, hf6⟩
          have HR6 := Lib.hid (HR5.out.fr hf6 (by simp))
          have HD6 := Lib.hid (HD5.out.quiet hf6)
          have T6 := Lib.hid (texts_any (hv6.inn (S := []) (by simp)) (HR6.out.strs (S := []) (by simp) j) (by have := HT.out; have := HDN.out; omega))
          clear hf6 hv6 HR5 HD5
          rw [HT.out, HDN.out] at T6
          go_wp2_with fail
          go_at_call 16
          refine T6.out.mono ?_
          rintro e W7 ⟨rfl, hf7⟩
          simp only [decide_true]
          have HD7 := Lib.hid (HD6.out.quiet hf7)
          clear hf7 HR6 HD6 T6
          go_wp2
          go_ret
          exact ⟨rfl, HD7.out.below⟩

theorem keeps_any {w : World} (n : Int) (v pv : Value) (l : List OpD) (picks : List Int) (ho : OpsIn w v l) (hp : IntsIn w [] pv picks) :
    Calls Try.prog 4 #[.int .i64 n, v, pv] w fun e W' => e = .returned (.bool true) ∧ Below w.heap.size w W' := by
  obtain ⟨a, cap, rfl⟩ := ho.cells
  obtain ⟨pa, pc, rfl⟩ := hp.cells
  by_cases hn : n < 1 ∨ 64 < n
  · exact keeps_none n hn a _ cap _
  · obtain ⟨n, rfl⟩ := Int.eq_ofNat_of_zero_le (show 0 ≤ n by omega)
    by_cases hl : (60 : Int) < l.length
    · exact keeps_long n (by omega) (by omega) a _ hl cap _
    · cases hi : Try.prog.info? 9 with
      | none => have := infoS; rw [hi] at this; cases this
      | some i =>
      have hib := infoS
      rw [hi] at hib
      simp only [Option.map_some, Option.some.injEq, Prod.mk.injEq] at hib
      obtain ⟨hz, hsz, hby⟩ := hib
      have hmk : ∀ W : World, _ := fun W => run_makeSlice (P := Try.prog) W 27 9 i _ Try.underlying27 hi hz .i64 .i64 n n (by omega) (Int.le_refl _) (by rw [hsz]; omega) (by rw [hby]; omega) (by omega)
      rw [hsz] at hmk
      simp only [Int.toNat_natCast, Nat.mul_one] at hmk
      refine keeps_core n (by omega) (by omega) a l (by omega) cap ho pa picks pc hp _ hmk fun j hj => ?_
      simp only [madeCells, Array.getElem?_map]
      rw [Array.getElem?_eq_getElem (by simpa using hj)]
      simp only [Array.getElem_range, Option.map_some]
      have e : (strV []).cells = #[strV []] := rfl
      rw [e]
      simp only [List.size_toArray, List.length_cons, List.length_nil, Nat.zero_add, Nat.mod_one]
      rfl
end Go.Proofs.Ytoefpnmfeaimlaa
