/- The contracts of step, Read, Write, Wear and Rot. -/
import Derived.Test.YtoefpnmfeaimlaaDisk
import Derived.Test.YtoefpnmfeaimlaaOps
namespace Go.Proofs.Ytoefpnmfeaimlaa
open Go.RowKit Dk

/-- A store into the struct's plain fields. -/
theorem DiskIn.setP {w : World} {f : DF} {D : DS} {c : Array Value} {x : Int} {lp lw : List (Int × Value)} {cap : Nat} (h : DiskIn w f D c x lp lw cap) (off : Bool) (left : Option Nat) (x' : Int) (hx : leftIs x' left) (hx2 : x' ≤ 9223372036854775807) :
    DiskAt (putObj w f.p (.cells #[.slice (some ⟨f.bb, 0, none⟩) D.s.length cap, .map (some f.mp), .map (some f.mw), .bool off, .int .i64 x'] 67 (0, 0))) f { D with off := off, left := left } ∧
    Fr f.blks w (putObj w f.p (.cells #[.slice (some ⟨f.bb, 0, none⟩) D.s.length cap, .map (some f.mp), .map (some f.mw), .bool off, .int .i64 x'] 67 (0, 0))) := by
  have hlt := lt_of_heap h.hp
  refine ⟨⟨c, x', lp, lw, cap, { h with hp := heap_put_same _ _ _ hlt, hx := hx, hx2 := hx2, hb := ?_, hm := ?_, hw := ?_ }⟩, (Fr.refl _ _).putObj (.inl (by simp [DF.blks])) _⟩
  · rw [heap_put_ne _ _ _ _ h.pb.symm]; exact h.hb
  · exact h.hm.kept (heap_put_ne _ _ _ _ h.pm.symm)
  · exact h.hw.kept (heap_put_ne _ _ _ _ h.pw.symm)

theorem step_ex {w : World} {f : DF} {D : DS} (h : DiskAt w f D) :
    ∃ W1, DiskAt W1 f D.step.1 ∧ Fr f.blks w W1 ∧ W1.heap.size = w.heap.size ∧ Calls Try.prog 32 #[.pointer (some ⟨f.p, 0, none⟩)] w fun e w' => e = .returned (.int .i64 D.step.2) ∧ W1 = w' := by
  obtain ⟨c, x, lp, lw, cap, h⟩ := h
  have h4 := cell_blk h.hp 4
  have h3 := cell_blk h.hp 3
  have f4 := free_blk h.hp 4
  have f3 := free_blk h.hp 3
  simp at h3 h4
  have hx := h.hx
  have hx2 := h.hx2
  cases hl : D.left with
  | none =>
    rw [hl] at hx
    have hx : x < 0 := hx
    have hd : D.step = (D, 0) := by simp [DS.step, hl, eOK]
    rw [hd]
    refine ⟨w, ⟨c, x, lp, lw, cap, h⟩, Fr.refl _ _, rfl, ?_⟩
    clear h hd hl
    go_enter Try.func32, Try.ntmps32
    go_wp2
    go_ret
    exact ⟨rfl, rfl⟩
  | some k =>
    rw [hl] at hx
    have hx : x = k := hx
    cases k with
    | zero =>
      subst hx
      have hd : D.step = ({ D with off := true, left := some 0 }, 24) := by simp [DS.step, hl, eDown]
      rw [hd]
      have hk := h.setP true (some 0) 0 rfl (by omega)
      have hs := setCell_put w f.p 3 (.bool true) _ _ _ h.hp
      simp at hs
      rw [← hs] at hk
      refine ⟨w.setCell ⟨f.p, 3, none⟩ (.bool true), hk.1, hk.2, by simp, ?_⟩
      clear h hd hl hk hs
      go_enter Try.func32, Try.ntmps32
      go_wp2
      refine bodyPost_ret (results_tmp rfl _ _ _) rfl ⟨rfl, rfl⟩
    | succ k =>
      have hd : D.step = ({ D with left := some k }, 0) := by simp [DS.step, hl, eOK]
      rw [hd]
      have hk := h.setP D.off (some k) (x - 1) (by show x - 1 = (k : Int); omega) (by omega)
      have hs := setCell_put w f.p 4 (.int .i64 (x - 1)) _ _ _ h.hp
      simp at hs
      rw [← hs] at hk
      refine ⟨w.setCell ⟨f.p, 4, none⟩ (.int .i64 (x - 1)), hk.1, hk.2, by simp, ?_⟩
      have hpos : 0 < x := by omega
      clear h hd hl hk hs hx
      go_enter Try.func32, Try.ntmps32
      go_wp2
      go_ret
      exact ⟨rfl, rfl⟩
theorem sec_ok {D : DS} (h : D.ok) {k : Nat} (hk : k < D.s.length) : (D.sec k).ok := by
  apply h
  unfold DS.sec
  simp [List.getD, hk]
/-- One sector has turned. -/
theorem DiskIn.setSec {w : World} {f : DF} {D : DS} {c : Array Value} {x : Int} {lp lw : List (Int × Value)} {cap : Nat} (h : DiskIn w f D c x lp lw cap) {k : Nat} (hk : k < D.s.length) (s : Sec) (hs : s.ok) {w' : World}
    (hp : w'.heap[f.p]? = w.heap[f.p]?) {c' : Array Value} (hb : w'.heap[f.bb]? = some (.cells c' 70 (0, 0))) (hc1 : ∀ j, j < 64 → c'[k * 64 + j]? = (byteVs s.text)[j]?) (hc2 : ∀ i, i ≠ k → ∀ j, j < 64 → c'[i * 64 + j]? = c[i * 64 + j]?)
    {lp' : List (Int × Value)} (hm : MapI w' f.mp lp') (hg1 : getM lp' k = s.next.map aggV) (hg2 : ∀ i : Int, i ≠ k → getM lp' i = getM lp i)
    {lw' : List (Int × Value)} (hw : MapI w' f.mw lw') (hw1 : getM lw' k = if s.worn = true then some (.bool true) else none) (hw2 : ∀ i : Int, i ≠ k → getM lw' i = getM lw i) : DiskAt w' f (D.setSec k s) := by
  refine ⟨c', x, lp', lw', cap, { h with hp := ?_, hb := hb, hc := ?_, hm := hm, hpend := ?_, hw := hw, hworn := ?_, ok := ok_set h.ok hs, one := ?_, few := ?_ }⟩
  · rw [hp, h.hp, len_set]; rfl
  · intro i hi j hj
    rw [len_set] at hi
    rw [sec_set _ _ _ _ hk]
    by_cases e : i = k
    · subst e; rw [if_pos rfl]; exact hc1 j hj
    · rw [if_neg e, hc2 i e j hj]; exact h.hc i hi j hj
  · intro i
    rw [has_set, sec_set _ _ _ _ hk]
    by_cases e : i = k
    · subst e
      rw [hg1, if_pos (has_true (by omega) (by omega))]
      simp
    · rw [hg2 i e, h.hpend i]
      by_cases hi : D.has i = true
      · rw [if_pos hi, if_pos hi, if_neg]
        have := (has_iff.1 hi).1
        omega
      · rw [if_neg hi, if_neg hi]
  · intro i
    rw [has_set, sec_set _ _ _ _ hk]
    by_cases e : i = k
    · subst e
      rw [hw1, has_true (by omega) (by omega)]
      simp
    · rw [hw2 i e, h.hworn i]
      by_cases hi : D.has i = true
      · have hne : ¬ i.toNat = k := by have := (has_iff.1 hi).1; omega
        rw [if_neg hne]
      · simp [hi]
  · rw [len_set]; exact h.one
  · rw [len_set]; exact h.few
theorem check_cases (D : DS) (i : Int) : (D.check i = 24 ∧ D.off = true) ∨ (D.check i = 1 ∧ D.off = false ∧ D.has i = false) ∨ (D.check i = 0 ∧ D.off = false ∧ D.has i = true) := by
  unfold DS.check eDown eArg eOK
  cases D.off <;> cases D.has i <;> simp
theorem nat_of {D : DS} {i : Int} (h : D.has i = true) : ∃ k : Nat, i = k ∧ k < D.s.length := by
  obtain ⟨h0, h1⟩ := has_iff.1 h
  exact ⟨i.toNat, by omega, by omega⟩
theorem range_kept {w w' : World} {b o : Nat} {l : List Value} (e : w'.heap[b]? = w.heap[b]?) (h : w.rangeAt b o l) : w'.rangeAt b o l := by
  intro j v hv
  rw [← h j v hv]
  simp [World.cell?, e]
theorem range_text {w : World} {f : DF} {D : DS} {c : Array Value} {x : Int} {lp lw : List (Int × Value)} {cap : Nat} (h : DiskIn w f D c x lp lw cap) {k : Nat} (hk : k < D.s.length) : w.rangeAt f.bb (k * 64) (byteVs (D.sec k).text) :=
  range_of_block h.hb (fun j hj => h.hc k hk j (by rw [byteVs_length, (sec_ok h.ok hk).1] at hj; exact hj))

set_option maxRecDepth 100000 in
set_option maxHeartbeats 400000 in
theorem read_any {w : World} {f : DF} {D : DS} (h : DiskAt w f D) (i : Int) :
    Calls Try.prog 11 #[.pointer (some ⟨f.p, 0, none⟩), .int .i64 i] w fun e w' => e = .returned (.tuple #[strV (D.read i).1, .int .i64 (D.read i).2]) ∧ Fr [] w w' := by
  have hch := check_any h i
  rcases check_cases D i with ⟨hc, _⟩ | ⟨hc, _, _⟩ | ⟨hc, ho, hi⟩
  · have hf : D.read i = ([], 24) := by simp [DS.read, hc, eOK]
    rw [hc] at hch
    rw [hf]
    have HC := Lib.hid hch
    clear hch hf hc h
    go_enter Try.func11, Try.ntmps11
    go_wp2_with (go_at_call 31; refine HC.out.mono ?_; rintro e w' ⟨rfl, rfl⟩)
    go_ret2
    exact ⟨rfl, Fr.refl _ _⟩
  · have hf : D.read i = ([], 1) := by simp [DS.read, hc, eOK]
    rw [hc] at hch
    rw [hf]
    have HC := Lib.hid hch
    clear hch hf hc h
    go_enter Try.func11, Try.ntmps11
    go_wp2_with (go_at_call 31; refine HC.out.mono ?_; rintro e w' ⟨rfl, rfl⟩)
    go_ret2
    exact ⟨rfl, Fr.refl _ _⟩
  · have hf : D.read i = ((D.sec i.toNat).seen, 0) := by simp [DS.read, hc, eOK]
    rw [hc] at hch
    rw [hf]
    have HC := Lib.hid hch
    clear hch hf hc
    obtain ⟨k, rfl, hk⟩ := nat_of hi
    obtain ⟨c, x, lp, lw, cap, h⟩ := h
    have h0 := cell_blk h.hp 0
    have h1 := cell_blk h.hp 1
    simp at h0 h1
    obtain ⟨zb, hz, hzs, hz1⟩ := zeroB
    have hr := run_lookup_map_ok (P := Try.prog) (w := w) Try.underlying64 Try.underlying3 hz h.hm (k : Int)
    have hg := h.hpend (k : Int)
    rw [if_pos hi] at hg
    simp only [Int.toNat_natCast] at hg ⊢
    have hok := sec_ok h.ok hk
    have hpl := lt_of_heap h.hp
    have hbl := lt_of_heap h.hb
    cases hn : (D.sec k).next with
    | none =>
      rw [hn] at hg
      rw [hg] at hr
      have hseen : (D.sec k).seen = (D.sec k).text := by simp [Sec.seen, hn]
      rw [hseen]
      have HT := range_text h hk
      have HT1 := Lib.hid HT
      have HL := Lib.hid hok.1
      clear h hg hn hseen hok HT
      simp at hr
      have hzi := sizeB
      rw [← hzs] at hzi
      have HZ := Lib.hid hzi
      have hza := hz1
      clear hzi hzs
      go_enter Try.func11, Try.ntmps11
      go_wp2_with (first
        | (go_at_call 31; refine HC.out.mono ?_; rintro e w' ⟨rfl, rfl⟩)
        | (refine wpList_store_new rfl 70 _ _ rfl zb zb _ rfl rfl rfl HZ.out rfl (by assumption) ?_)
        | (refine wpList_bytesStr rfl 68 9 5 _ rfl Try.underlying68 Try.underlying5 Try.underlying9 f.bb (k * 64) 64 64 rfl (D.sec k).text HL.out ?hr ?_))
      case hr => exact range_kept (heap_alloc_lt _ _ _ hbl) HT1.out
      go_ret2
      exact ⟨rfl, (Fr.refl _ _).alloc _⟩
    | some t =>
      rw [hn] at hg
      rw [hg] at hr
      have hseen : (D.sec k).seen = t := by simp [Sec.seen, hn]
      rw [hseen]
      have HL := Lib.hid (hok.2 t hn)
      have hz2 : (byteVs t).toArray.size = 64 := by simp [byteVs_length, hok.2 t hn]
      clear h hg hn hseen hok
      simp [aggV] at hr
      have hzi := sizeB
      rw [← hz2] at hzi
      have HZ := Lib.hid hzi
      have HZ2 := Lib.hid (hzs.trans hz2.symm)
      clear hzi hzs hz2
      go_enter Try.func11, Try.ntmps11
      go_wp2_with (first
        | (go_at_call 31; refine HC.out.mono ?_; rintro e w' ⟨rfl, rfl⟩)
        | (refine wpList_store_new rfl 70 _ _ rfl zb (byteVs t).toArray _ rfl rfl rfl HZ.out HZ2.out (oneCell_byteVs t) ?_)
        | (refine wpList_bytesStr rfl 68 9 5 _ rfl Try.underlying68 Try.underlying5 Try.underlying9 w.heap.size 0 64 64 rfl t HL.out ?hr ?_))
      case hr => exact range_of_block (heap_alloc_last _ _) (by simp)
      go_ret2
      exact ⟨rfl, (Fr.refl _ _).alloc _⟩
end Go.Proofs.Ytoefpnmfeaimlaa
