/- settle, over the plain model. -/
import Derived.Test.YtoefpnmfeaimlaaSettle
namespace Go.Proofs.Ytoefpnmfeaimlaa
open Go.RowKit Dk

theorem run_min (pk : Int) (W : World) : (Builtin.min_ #[3, 3] 3 #[.int .i64 pk, .int .i64 64]).run Try.prog W = .ok (.int .i64 (min pk 64)) W := by
  go_simp
  split <;> omega
theorem run_max (a : Int) (W : World) : (Builtin.max_ #[3, 3] 3 #[.int .i64 0, .int .i64 a]).run Try.prog W = .ok (.int .i64 (max 0 a)) W := by
  go_simp
  split <;> omega

theorem range_len (l : List Value) (c : Array Value) (o : Nat) (h : ∀ j, j < l.length → c[o + j]? = l[j]?) : o + l.length ≤ c.size ∨ l = [] := by
  cases l with
  | nil => exact .inr rfl
  | cons x l =>
    left
    have := h l.length (by simp)
    have h2 : (x :: l)[l.length]? = some ((x :: l)[l.length]'(by simp)) := List.getElem?_eq_getElem (by simp)
    rw [h2] at this
    have := (Array.getElem?_eq_some_iff.1 this).1
    simp; omega

theorem settle_any {w : World} {f : DF} {D : DS} (h : DiskAt w f D) (k : Nat) (hk : k < D.s.length) (t : List UInt8) (hn : (D.sec k).next = some t) (pk : Int) :
    Calls Try.prog 37 #[.pointer (some ⟨f.p, 0, none⟩), .int .i64 k, .int .i64 pk] w fun e w' => e = .returned (.tuple #[]) ∧ DiskAt w' f (D.settle k pk) ∧ Fr f.blks w w' := by
  obtain ⟨c, x, lp, lw, cap, h⟩ := h
  have hok := sec_ok h.ok hk
  have ht := hok.2 t hn
  have hu := hok.1
  have h1 := cell_blk h.hp 1
  simp at h1
  have hpl := lt_of_heap h.hp
  have hbl := lt_of_heap h.hb
  have hml := h.hm.lt
  have hwl := h.hw.lt
  have hhas : D.has (k : Int) = true := has_true (by omega) (by omega)
  obtain ⟨zb, hz, hzs, hz1⟩ := zeroB
  have hlk := run_lookup_map (P := Try.prog) (w := w) Try.underlying64 Try.underlying3 hz h.hm (k : Int)
  have hg := h.hpend (k : Int)
  rw [if_pos hhas, Int.toNat_natCast, hn] at hg
  rw [hg] at hlk
  obtain ⟨es, clock, hdel, hes, hst⟩ := run_delete_map (P := Try.prog) (ty := 0) Try.underlying64 Try.underlying3 h.hm (k : Int)
  have ha : ∀ b, b < w.heap.size → (w.alloc (.cells (byteVs t).toArray 70)).heap[b]? = w.heap[b]? := fun b hb => heap_alloc_lt _ _ _ hb
  have hdel1 := hdel (w.alloc (.cells (byteVs t).toArray 70)) (ha _ hml)
  have hW : ∀ b, b < w.heap.size → b ≠ f.mp → (putObj (w.alloc (.cells (byteVs t).toArray 70)) f.mp (.map es clock)).heap[b]? = w.heap[b]? := fun b hb hne => (heap_put_ne _ _ _ _ hne).trans (ha b hb)
  have hWq : (putObj (w.alloc (.cells (byteVs t).toArray 70)) f.mp (.map es clock)).heap[w.heap.size]? = some (.cells (byteVs t).toArray 70) := (heap_put_ne _ _ _ _ (by omega)).trans (heap_alloc_last _ _)
  have hWm : MapI (putObj (w.alloc (.cells (byteVs t).toArray 70)) f.mp (.map es clock)) f.mp (delM lp k) := ⟨es, clock, heap_put_same _ _ _ (by simp; omega), hes, hst⟩
  have hWf : Fr f.blks w (putObj (w.alloc (.cells (byteVs t).toArray 70)) f.mp (.map es clock)) := ((Fr.refl _ _).alloc _).putObj (.inl (by simp [DF.blks])) _
  have hWs : w.heap.size < (putObj (w.alloc (.cells (byteVs t).toArray 70)) f.mp (.map es clock)).heap.size := by rw [size_put]; simp
  generalize putObj (w.alloc (.cells (byteVs t).toArray 70)) f.mp (.map es clock) = W2 at *
  have g0 : W2.cell? ⟨f.p, 0, none⟩ = some (.slice (some ⟨f.bb, 0, none⟩) D.s.length cap) := by
    rw [cell_blk ((hW f.p hpl h.pm).trans h.hp)]; rfl
  have g2 : W2.cell? ⟨f.p, 2, none⟩ = some (.map (some f.mw)) := by
    rw [cell_blk ((hW f.p hpl h.pm).trans h.hp)]; rfl
  have hmw2 : MapI W2.drew f.mw lw := h.hw.kept (hW f.mw hwl h.mw.symm)
  have hlw := run_lookup_map (P := Try.prog) (w := W2.drew) Try.underlying65 Try.underlying3 zeroW hmw2 (k : Int)
  have hgw := h.hworn (k : Int)
  rw [hhas, Int.toNat_natCast] at hgw
  simp only [Bool.true_and] at hgw
  -- what the sector becomes
  have hset : D.settle k pk = D.setSec k ⟨if (D.sec k).worn then (D.sec k).text else t.take (clamp pk) ++ (D.sec k).text.drop (clamp pk), none, (D.sec k).worn⟩ := by
    simp [DS.settle, Sec.settle, hn]
  rw [hset]
  cases hwo : (D.sec k).worn with
  | true =>
    rw [hwo, if_pos rfl] at hgw
    rw [hgw] at hlw
    refine (settle_worn f.p f.mp f.mw k pk t ht h1 hpl hlk W2 hdel1 g2 hlw).mono ?_
    rintro e w' ⟨rfl, rfl⟩
    refine ⟨rfl, ?_, hWf.drew⟩
    refine h.setSec hk ⟨(D.sec k).text, none, true⟩ ⟨hu, fun _ h => by cases h⟩ (w' := W2.drew) (hW f.p hpl h.pm) (c' := c) ((hW f.bb hbl h.bm).trans h.hb) (h.hc k hk) (fun _ _ _ _ => rfl) (lp' := delM lp k) hWm ?_ ?_ (lw' := lw) hmw2 hgw (fun _ _ => rfl)
    · rw [getM_del, if_pos rfl]; rfl
    · intro i hi; rw [getM_del, if_neg hi]
  | false =>
    rw [hwo, if_neg (by simp)] at hgw
    rw [hgw] at hlw
    have hb2 : W2.heap[f.bb]? = some (.cells c 70 (0, 0)) := (hW f.bb hbl h.bm).trans h.hb
    have hr1 : W2.rangeAt w.heap.size 0 (byteVs t) := range_of_block hWq (by simp)
    have hr2 : W2.rangeAt f.bb (k * 64) (byteVs (D.sec k).text) := range_of_block hb2 (fun j hj => h.hc k hk j (by rw [byteVs_length, hu] at hj; exact hj))
    have hcl : clamp pk ≤ 64 := by unfold clamp; omega
    have hfit := range_len (byteVs (D.sec k).text) c (k * 64) (fun j hj => h.hc k hk j (by rw [byteVs_length, hu] at hj; exact hj))
    have hfit : k * 64 + 64 ≤ c.size := by
      rcases hfit with e | e
      · rw [byteVs_length, hu] at e; exact e
      · have := congrArg List.length e; rw [byteVs_length, hu] at this; cases this
    have hlen : ((byteVs t).take (clamp pk)).length = clamp pk := by rw [List.length_take, byteVs_length, ht]; omega
    have hcp := run_copy_row (P := Try.prog) W2.drew.drew 68 68 3 5 f.bb (k * 64) (clamp pk) 64 ⟨w.heap.size, 0, none⟩ 64 64 c 70 ((byteVs t).take (clamp pk)) Try.underlying68 (by kernel_rfl) hb2
      (by rw [hlen]; show clamp pk = min 64 (clamp pk); omega) (fun j v hv => by
        rw [Addr.add_mid]
        refine hr1 j v ?_
        rw [List.getElem?_take] at hv
        split at hv
        · exact hv
        · cases hv) (by rw [hlen]; omega) (fun v hv => by
        have := List.mem_of_mem_take hv
        obtain ⟨b, _, rfl⟩ := List.mem_map.1 this
        rfl)
    rw [hlen] at hcp
    have hsr : W2.drew.drew.setRow f.bb (c.toList.take (k * 64) ++ (byteVs t).take (clamp pk) ++ c.toList.drop (k * 64 + clamp pk)).toArray = _ := setRow_put _ _ c _ _ _ hb2
    rw [hsr] at hcp
    refine (settle_neq f.p f.bb f.mp f.mw D.s.length cap k pk t (D.sec k).text ht hu h1 hpl hlk W2 hdel1 g0 g2 (by omega) (by omega) hlw hr1 hr2 (clamp pk) (min pk 64) (run_min pk) ?_ (by omega) (by omega) _ hcp).mono ?_
    · intro W
      rw [run_max]
      have : max 0 (min pk 64) = (clamp pk : Int) := by unfold clamp; omega
      rw [this]
    rintro e w' ⟨rfl, ⟨heq, rfl⟩ | rfl⟩
    · refine ⟨rfl, ?_, hWf.drew⟩
      have htt : (t.take (clamp pk) ++ (D.sec k).text.drop (clamp pk)) = (D.sec k).text := by rw [heq, List.take_append_drop]
      simp only [htt, Bool.false_eq_true, if_false]
      refine h.setSec hk ⟨(D.sec k).text, none, false⟩ ⟨hu, fun _ h => by cases h⟩ (w' := W2.drew) (hW f.p hpl h.pm) (c' := c) ((hW f.bb hbl h.bm).trans h.hb) (h.hc k hk) (fun _ _ _ _ => rfl) (lp' := delM lp k) hWm ?_ ?_ (lw' := lw) hmw2 hgw (fun _ _ => rfl)
      · rw [getM_del, if_pos rfl]; rfl
      · intro i hi; rw [getM_del, if_neg hi]
    · refine ⟨rfl, ?_, (hWf.drew.drew).putObj (.inl (by simp [DF.blks])) _⟩
      simp only [Bool.false_eq_true, if_false]
      have hb3 : f.bb < W2.heap.size := by omega
      refine h.setSec hk ⟨t.take (clamp pk) ++ (D.sec k).text.drop (clamp pk), none, false⟩ ⟨by simp [ht, hu]; omega, fun _ h => by cases h⟩ ?_ (c' := (c.toList.take (k * 64) ++ (byteVs t).take (clamp pk) ++ c.toList.drop (k * 64 + clamp pk)).toArray) (heap_put_same _ _ _ hb3) ?_ ?_ (lp' := delM lp k) ?_ ?_ ?_ (lw' := lw) ?_ hgw (fun _ _ => rfl)
      · rw [heap_put_ne _ _ _ _ h.pb]; exact hW f.p hpl h.pm
      · intro j hj
        have hj2 := h.hc k hk j hj
        simp only [List.getElem?_toArray]
        have hl1 : (c.toList.take (k * 64)).length = k * 64 := by simp; omega
        rw [List.append_assoc, List.getElem?_append_right (by rw [hl1]; omega), hl1, show k * 64 + j - k * 64 = j by omega]
        have e2 : byteVs (t.take (clamp pk) ++ (D.sec k).text.drop (clamp pk)) = (byteVs t).take (clamp pk) ++ (byteVs (D.sec k).text).drop (clamp pk) := by simp [byteVs, List.map_take, List.map_drop]
        rw [e2]
        by_cases hjc : j < clamp pk
        · rw [List.getElem?_append_left (by rw [hlen]; exact hjc), List.getElem?_append_left (by rw [hlen]; exact hjc)]
        · rw [List.getElem?_append_right (by rw [hlen]; omega), List.getElem?_append_right (by rw [hlen]; omega), hlen, List.getElem?_drop, List.getElem?_drop, Array.getElem?_toList,
            show k * 64 + clamp pk + (j - clamp pk) = k * 64 + j by omega, show clamp pk + (j - clamp pk) = j by omega, hj2]
      · intro i hi j hj
        simp only [List.getElem?_toArray]
        have hl1 : (c.toList.take (k * 64)).length = k * 64 := by simp; omega
        by_cases hlt : i * 64 + j < k * 64
        · rw [List.append_assoc, List.getElem?_append_left (by rw [hl1]; exact hlt), List.getElem?_take, if_pos hlt, Array.getElem?_toList]
        · have hge : k * 64 + 64 ≤ i * 64 + j := by omega
          rw [List.getElem?_append_right (by rw [List.length_append, hl1, hlen]; omega), List.length_append, hl1, hlen, List.getElem?_drop, Array.getElem?_toList]
          rw [show k * 64 + clamp pk + (i * 64 + j - (k * 64 + clamp pk)) = i * 64 + j by omega]
      · exact hWm.kept (heap_put_ne _ _ _ _ h.bm.symm)
      · rw [getM_del, if_pos rfl]; rfl
      · intro i hi; rw [getM_del, if_neg hi]
      · exact hmw2.kept (heap_put_ne _ _ _ _ h.bw.symm)
end Go.Proofs.Ytoefpnmfeaimlaa
