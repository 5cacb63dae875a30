/- The contracts of settle, Flush and Mount of the disk of the specification. -/
import Derived.Test.YtoefpnmfeaimlaaRef3
import Derived.Test.YtoefpnmfeaimlaaFlush
namespace Go.Proofs.Ytoefpnmfeaimlaa
open Go.RowKit Dk

theorem RIn.put4 {w : World} {r : RF} {D : DS} {c : Array Value} {x : Int} {cap : Nat} (h : RIn w r D c x cap) {k : Nat} (hk : k < D.s.length) (s : Sec) (hs : s.ok) (v0 v1 v2 v3 : Value) (hv : secCells s = [v0, v1, v2, v3]) :
    RAt ((((w.setCell ⟨r.b, k * 4, none⟩ v0).setCell ⟨r.b, k * 4 + 1, none⟩ v1).setCell ⟨r.b, k * 4 + 2, none⟩ v2).setCell ⟨r.b, k * 4 + 3, none⟩ v3) r (D.setSec k s) ∧
    Fr r.blks w ((((w.setCell ⟨r.b, k * 4, none⟩ v0).setCell ⟨r.b, k * 4 + 1, none⟩ v1).setCell ⟨r.b, k * 4 + 2, none⟩ v2).setCell ⟨r.b, k * 4 + 3, none⟩ v3) := by
  have hsz := h.size hk
  have hbl := lt_of_heap h.hb
  have e0 := setCell_put w r.b (k * 4) v0 _ _ _ h.hb
  have b0 : (w.setCell ⟨r.b, k * 4, none⟩ v0).heap[r.b]? = some (.cells (c.setIfInBounds (k * 4) v0) 52 (0, 0)) := by rw [e0]; exact heap_put_same _ _ _ hbl
  have e1 := setCell_put _ r.b (k * 4 + 1) v1 _ _ _ b0
  have b1 : ((w.setCell ⟨r.b, k * 4, none⟩ v0).setCell ⟨r.b, k * 4 + 1, none⟩ v1).heap[r.b]? = some (.cells ((c.setIfInBounds (k * 4) v0).setIfInBounds (k * 4 + 1) v1) 52 (0, 0)) := by rw [e1]; exact heap_put_same _ _ _ (lt_of_heap b0)
  have e2 := setCell_put _ r.b (k * 4 + 2) v2 _ _ _ b1
  have b2 : (((w.setCell ⟨r.b, k * 4, none⟩ v0).setCell ⟨r.b, k * 4 + 1, none⟩ v1).setCell ⟨r.b, k * 4 + 2, none⟩ v2).heap[r.b]? = some (.cells (((c.setIfInBounds (k * 4) v0).setIfInBounds (k * 4 + 1) v1).setIfInBounds (k * 4 + 2) v2) 52 (0, 0)) := by rw [e2]; exact heap_put_same _ _ _ (lt_of_heap b1)
  have e3 := setCell_put _ r.b (k * 4 + 3) v3 _ _ _ b2
  have hin : r.b ∈ r.blks := by simp [RF.blks]
  refine ⟨h.setSec hk s hs ?_ (c' := (((c.setIfInBounds (k * 4) v0).setIfInBounds (k * 4 + 1) v1).setIfInBounds (k * 4 + 2) v2).setIfInBounds (k * 4 + 3) v3) ?_ ?_ ?_, ?_⟩
  · rw [e3, heap_put_ne _ _ _ _ h.pb, e2, heap_put_ne _ _ _ _ h.pb, e1, heap_put_ne _ _ _ _ h.pb, e0, heap_put_ne _ _ _ _ h.pb]
  · rw [e3]; exact heap_put_same _ _ _ (lt_of_heap b2)
  · rw [hv]
    refine four ?_ ?_ ?_ ?_
    · simp only [Array.getElem?_setIfInBounds]
      rw [if_neg (by omega), if_neg (by omega), if_neg (by omega), if_pos (by omega), if_pos (by omega)]; rfl
    · rw [Array.getElem?_setIfInBounds, if_neg (by omega), Array.getElem?_setIfInBounds, if_neg (by omega), Array.getElem?_setIfInBounds, if_pos rfl, if_pos (by simp; omega)]; rfl
    · rw [Array.getElem?_setIfInBounds, if_neg (by omega), Array.getElem?_setIfInBounds, if_pos rfl, if_pos (by simp; omega)]; rfl
    · rw [Array.getElem?_setIfInBounds, if_pos rfl, if_pos (by simp; omega)]; rfl
  · intro i hi j hj
    simp only [Array.getElem?_setIfInBounds]
    rw [if_neg (by omega), if_neg (by omega), if_neg (by omega), if_neg (by omega)]
  · rw [e3]
    refine Fr.putObj ?_ (.inl hin) _
    rw [e2]
    refine Fr.putObj ?_ (.inl hin) _
    rw [e1]
    refine Fr.putObj ?_ (.inl hin) _
    rw [e0]
    exact (Fr.refl _ _).putObj (.inl hin) _
theorem RAt.drew {w : World} {r : RF} {D : DS} (h : RAt w r D) : RAt w.drew r D := h.fr (S := []) (Fr.refl _ _).drew (by simp)

theorem rsettle_any {w : World} {r : RF} {D : DS} (h : RAt w r D) (k : Nat) (hk : k < D.s.length) (u : List UInt8) (hu : (D.sec k).next = some u) (pk : Int) :
    Calls Try.prog 60 #[.pointer (some ⟨r.p, 0, none⟩), .int .i64 k, .int .i64 pk] w fun e w' => e = .returned (.tuple #[]) ∧ RAt w' r (D.settle k pk) ∧ Fr r.blks w w' := by
  have ha : ∀ o : Obj, RAt (w.alloc o) r D ∧ Fr r.blks w (w.alloc o) := fun o => ⟨h.fr (S := []) ((Fr.refl _ _).alloc o) (by simp), (Fr.refl _ _).alloc o⟩
  obtain ⟨c, x, cap, h⟩ := h
  obtain ⟨s0, s1, s2, s3⟩ := h.sec hk
  have hok := sec_ok h.ok hk
  rw [hu] at s1 s2
  simp only [Option.getD_some] at s1
  simp only [Option.isSome_some] at s2
  have hkn : (k : Int) < D.s.length := by omega
  cases hw : (D.sec k).worn with
  | true =>
    rw [hw] at s3
    refine (rsettle_worn r.p r.b k D.s.length cap pk (D.sec k).text u h.c0 hkn s0 s1 s2 s3 (free_blk h.hb _) (free_blk h.hb _) (free_blk h.hb _) (free_blk h.hb _)).mono ?_
    rintro e w' ⟨rfl, o, rfl⟩
    obtain ⟨⟨c1, x1, cap1, h1⟩, hf⟩ := ha o
    have hset : D.settle k pk = D.setSec k ⟨(D.sec k).text, none, true⟩ := by simp [DS.settle, Sec.settle, hu, hw]
    rw [hset]
    have hp := h1.put4 hk ⟨(D.sec k).text, none, true⟩ ⟨hok.1, fun t ht => by cases ht⟩ (.string ⟨(D.sec k).text.toArray⟩) (.string ⟨#[]⟩) (.bool false) (.bool true) rfl
    exact ⟨rfl, hp.1.drew, (hf.trans hp.2).drew⟩
  | false =>
    rw [hw] at s3
    have hq : (pk ≤ 0 ∧ ((clamp pk : Nat) : Int) = 0) ∨ (pk = (clamp pk : Nat) ∧ (0 : Int) < (clamp pk : Nat) ∧ ((clamp pk : Nat) : Int) ≤ 64) ∨ (64 < pk ∧ ((clamp pk : Nat) : Int) = 64) := by
      unfold clamp; omega
    refine (rsettle_free r.p r.b k D.s.length cap pk (D.sec k).text u (clamp pk) hq hok.1 (hok.2 u hu) _ rfl h.c0 hkn s0 s1 s2 s3 (free_blk h.hb _) (free_blk h.hb _) (free_blk h.hb _) (free_blk h.hb _)).mono ?_
    rintro e w' ⟨rfl, o, rfl⟩
    obtain ⟨⟨c1, x1, cap1, h1⟩, hf⟩ := ha o
    have hset : D.settle k pk = D.setSec k ⟨u.take (clamp pk) ++ (D.sec k).text.drop (clamp pk), none, false⟩ := by simp [DS.settle, Sec.settle, hu, hw]
    rw [hset]
    have hcl : clamp pk ≤ 64 := by unfold clamp; omega
    have hp := h1.put4 hk ⟨u.take (clamp pk) ++ (D.sec k).text.drop (clamp pk), none, false⟩ ⟨by simp [hok.1, hok.2 u hu]; omega, fun t ht => by cases ht⟩ (.string ⟨(u.take (clamp pk) ++ (D.sec k).text.drop (clamp pk)).toArray⟩) (.string ⟨#[]⟩) (.bool false) (.bool false) rfl
    exact ⟨rfl, hp.1.drew.drew, (hf.trans hp.2).drew.drew⟩
end Go.Proofs.Ytoefpnmfeaimlaa
