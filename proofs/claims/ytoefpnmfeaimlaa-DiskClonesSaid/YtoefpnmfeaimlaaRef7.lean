/- The contracts of Image, Pending and Worn of the disk of the specification. -/
import Derived.Test.YtoefpnmfeaimlaaRef6
import Derived.Test.YtoefpnmfeaimlaaImage
import Derived.Laws.AppendOwn
namespace Go.Proofs.Ytoefpnmfeaimlaa
open Go.RowKit Dk

theorem infoI : (Try.prog.info? 3).map (fun i => (i.zero, i.size, i.bytes)) = some (some (.int .i64 0), 1, 8) := by kernel_rfl
theorem below_grown {w wr w' : World} {o : Obj} {e : TypeId} {size n : Nat} {v : Value} {xs : List Value} (hb : Below w.heap.size w wr) (ho : wr.ownsRow w.heap.size e size v n xs) (hg : (wr.alloc o).grownBy w' v.ownBlock) : Below w.heap.size w w' := by
  refine hb.trans (Below.trans ((Below.refl w.heap.size wr).alloc hb.size o) ⟨hg.os, hg.tape, hg.output, hg.size, fun k hk => hg.block k (by have := hb.size; simp; omega) ?_⟩)
  obtain ⟨_, ⟨rfl, _⟩ | ⟨g, cap, cur, rfl, hle, _⟩⟩ := ho
  · simp [Value.ownBlock]
  · simp only [Value.ownBlock, ne_eq, Option.some.injEq]
    omega
/-- A row of texts of the call's own. -/
def TextsAt (w : World) (base : Nat) (v : Value) (l : List (List UInt8)) : Prop := w.ownsRow base 9 1 v l.length (l.map strV)
theorem TextsAt.inn {w : World} {base : Nat} {v : Value} {l : List (List UInt8)} (h : TextsAt w base v l) {S : List Nat} (hS : ∀ b ∈ S, b < base) : StrsIn w S v l := by
  obtain ⟨_, h | ⟨g, cap, cur, hv, hg, hb, hn, hc, hs, ht⟩⟩ := h
  · refine .inl ⟨List.eq_nil_of_length_eq_zero h.2, none, 0, h.1⟩
  · refine .inr ⟨g, 0, cap, hv, fun hm => by have := hS g hm; omega, fun j x hx => ?_⟩
    have hj : j < l.length := (List.getElem?_eq_some_iff.1 hx).1
    rw [cell_blk hb, Nat.zero_add]
    have := congrArg (fun q => q[j]?) ht
    simp only [List.getElem?_map, hx, Option.map_some, Nat.mul_one] at this
    rw [List.getElem?_take, if_pos hj, Array.getElem?_toList] at this
    exact this
theorem own_nil (w : World) (base : Nat) (e : TypeId) : w.ownsRow base e 1 (.slice none 0 0) 0 [] := ⟨rfl, .inl ⟨rfl, rfl⟩⟩
theorem image_succ (D : DS) (j : Nat) (hj : j < D.s.length) : (D.image.take j).map strV ++ [strV (D.sec j).text] = (D.image.take (j + 1)).map strV := by
  have h : D.image[j]? = some (D.sec j).text := by
    unfold DS.image DS.sec
    simp [List.getD, hj]
  rw [List.take_add_one, h]
  simp

set_option maxHeartbeats 1000000 in
set_option maxRecDepth 100000 in
theorem rimage_any {w : World} {r : RF} {D : DS} (h : RAt w r D) :
    Calls Try.prog 48 #[.pointer (some ⟨r.p, 0, none⟩)] w fun e w' => ∃ v, e = .returned v ∧ TextsAt w' w.heap.size v D.image ∧ Below w.heap.size w w' := by
  have hR := Lib.hid h
  obtain ⟨c, x, cap, h⟩ := h
  have hfew : (D.s.length : Int) ≤ 4096 := by have := h.few; omega
  have HRI := Lib.hid h
  clear h
  cases hi : Try.prog.info? 9 with
  | none => have := infoS; rw [hi] at this; cases this
  | some i0 =>
  have hib := infoS
  rw [hi] at hib
  simp only [Option.map_some, Option.some.injEq, Prod.mk.injEq] at hib
  obtain ⟨hz0, hz1, hz2⟩ := hib
  have HI := Lib.hid hi
  have HZ0 := Lib.hid hz0
  have HZ1 := Lib.hid hz1
  have HZ2 := Lib.hid hz2
  clear hi hz0 hz1 hz2
  go_enter Try.func48, Try.ntmps48
  go_wp2
  go_loopw [3, 4] (fun v iv wr => ∃ j : Nat, j ≤ D.s.length ∧ iv = .int .i64 j ∧ wr.ownsRow w.heap.size 9 1 v j ((D.image.take j).map strV) ∧ Below w.heap.size w wr) (fun _ iv _ => D.s.length - (intOf iv).toNat)
  case atStart => exact ⟨0, Nat.zero_le _, rfl, own_nil _ _ _, Below.refl _ _⟩
  case round =>
    obtain ⟨j, hj, rfl, hown, hb⟩ := hrel
    have hRr : RIn wr r D c x cap := { HRI.out with hp := (hb.block _ (lt_of_heap HRI.out.hp)).trans HRI.out.hp, hb := (hb.block _ (lt_of_heap HRI.out.hb)).trans HRI.out.hb }
    have c0 := hRr.c0
    have HO := Lib.hid hown
    have HB := Lib.hid hb
    clear hown hb
    by_cases hlt : j < D.s.length
    · have hjn : (j : Int) < D.s.length := by omega
      have hj4 : (j : Int) < 4096 := by omega
      have hs := (hRr.sec hlt).1
      have HX := Lib.hid (image_succ D j hlt)
      clear hRr
      go_wp2_with (at_builtin; refine wpList_append_own _ rfl _ _ 27 rfl w.heap.size 9 i0 (strV []) 1 16 Try.underlying27 HI.out HZ0.out HZ1.out HZ2.out rfl (by decide) _ _ _ rfl (HO.out.alloc _) ⟨wr.heap.size, 0, none⟩ 1 1 [.string ⟨(D.sec j).text.toArray⟩] rfl rfl (cell_one_new _ _ _) (fun x hx => by simp at hx; subst hx; rfl) (by unfold maxLen; omega) (by omega) (by simp; have := HB.out.size; omega) ?_; intro v' w3 hown' hgrow3 hnil3; have HO' := Lib.hid hown'; have HG := Lib.hid hgrow3; clear hown' hgrow3 hnil3)
      go_roundw
      case rel =>
        refine ⟨j + 1, by omega, by go_num, ?_, below_grown HB.out HO.out HG.out⟩
        rw [← HX.out]; exact HO'.out
      case measure => simp [intOf]; omega
    · obtain rfl : j = D.s.length := by omega
      clear hRr hj
      go_wp2
      go_ret
      refine ⟨_, rfl, ?_, HB.out⟩
      have := HO.out
      have hl : D.image.length = D.s.length := by simp [DS.image]
      rw [← hl, List.take_length] at this
      exact this
end Go.Proofs.Ytoefpnmfeaimlaa
