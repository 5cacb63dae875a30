/- The text that an operation of a script writes. -/
import Derived.Test.YtoefpnmfeaimlaaDisk
namespace Go.Proofs.Ytoefpnmfeaimlaa
open Go.RowKit Dk

namespace Dk
/-- The text that is written: filled with its last byte. -/
def padTo (s : List UInt8) : List UInt8 := if s = [] then [] else s ++ List.replicate (64 - s.length) (s.getLastD 0)
/-- An operation of a script. -/
structure OpD where
  kind : Int
  i : Int
  bit : Int
  text : List UInt8
  picks : List Int

def DS.doOp (D : DS) (o : OpD) : DS :=
  if o.kind = 1 then D.write o.i (padTo o.text) else if o.kind = 2 then D else if o.kind = 3 then D.flush else if o.kind = 4 then D.trip o.i
  else if o.kind = 5 then D.mount o.picks else if o.kind = 6 then D.rot o.i o.bit else if o.kind = 7 then D.wear o.i else D
def DS.doR (D : DS) (o : OpD) : List UInt8 × Int :=
  if o.kind = 1 then ([], D.writeE o.i (padTo o.text)) else if o.kind = 2 then D.read o.i else if o.kind = 3 then ([], D.flushE) else if o.kind = 4 then ([], 0)
  else if o.kind = 5 then ([], 0) else if o.kind = 6 then ([], D.rotE o.i o.bit) else if o.kind = 7 then ([], D.wearE o.i) else ([], 0)
end Dk

theorem bytes_last (s : List UInt8) (j : Nat) (hs : s ≠ []) :
    (⟨(s ++ List.replicate j (s.getLastD 0)).toArray⟩ : ByteArray) ++ (⟨(s ++ List.replicate j (s.getLastD 0)).toArray⟩ : ByteArray).extract (s.length + j - 1) (s.length + j) = ⟨(s ++ List.replicate (j + 1) (s.getLastD 0)).toArray⟩ := by
  apply ByteArray.ext
  apply Array.toList_inj.1
  have hl : (s ++ List.replicate j (s.getLastD 0)).length = s.length + j := by simp
  have hp : 0 < s.length := List.length_pos_iff.2 hs
  have hd : (s ++ List.replicate j (s.getLastD 0)).drop (s.length + j - 1) = [s.getLastD 0] := by
    rw [List.drop_eq_getElem_cons (by rw [hl]; omega), List.drop_of_length_le (by rw [hl]; omega)]
    congr 1
    by_cases e : j = 0
    · subst e
      simp only [List.replicate_zero, List.append_nil, Nat.add_zero]
      rw [List.getLastD_eq_getLast?, List.getLast?_eq_getElem?, List.getElem?_eq_getElem (by omega)]
      rfl
    · rw [List.getElem_append_right (by omega)]
      simp
  simp only [ByteArray.data_append, ByteArray.data_extract, Array.toList_append, Array.toList_extract]
  rw [List.extract_eq_take_drop, hd, List.replicate_succ', ← List.append_assoc]
  congr 1
  rw [show s.length + j - (s.length + j - 1) = 1 by omega]
  rfl

set_option maxRecDepth 100000 in
theorem text_any {w : World} (k i b : Int) (s : List UInt8) (a : Option Addr) (n cap : Nat) :
    Calls Try.prog 21 #[.agg #[.int .i64 k, .int .i64 i, .int .i64 b, strV s, .slice a n cap]] w fun e w' => e = .returned (strV (padTo s)) ∧ Below w.heap.size w w' := by
  by_cases hs : s = []
  · subst hs
    unfold strV padTo
    rw [if_pos rfl]
    have hb : ∀ o, Below w.heap.size w (w.alloc o) := fun o => (Below.refl _ _).alloc (Nat.le_refl _) o
    go_enter Try.func21, Try.ntmps21
    go_wp2
    go_loopw [3] (fun v wr => v = .string ⟨#[]⟩ ∧ Below w.heap.size w wr) (fun _ _ => 0)
    case atStart => exact ⟨rfl, hb _⟩
    case round =>
      obtain ⟨rfl, hb⟩ := hrel
      go_wp2
      go_ret
      exact ⟨rfl, hb⟩
  · have hpos : 0 < s.length := List.length_pos_iff.2 hs
    have hstep := fun j => bytes_last s j hs
    unfold strV padTo
    rw [if_neg hs]
    clear hs
    have hb : ∀ o, Below w.heap.size w (w.alloc o) := fun o => (Below.refl _ _).alloc (Nat.le_refl _) o
    generalize s.getLastD 0 = c at *
    have HST := Lib.hid hstep
    clear hstep
    go_enter Try.func21, Try.ntmps21
    go_wp2
    go_loopw [3] (fun v wr => ∃ j : Nat, (j = 0 ∨ s.length + j ≤ 64) ∧ v = .string ⟨(s ++ List.replicate j c).toArray⟩ ∧ Below w.heap.size w wr) (fun v _ => 64 - (match v with | .string b => b.size | _ => 0))
    case atStart => exact ⟨0, .inl rfl, by simp, hb _⟩
    case round =>
      obtain ⟨j, hj, rfl, hb⟩ := hrel
      have hl : (s ++ List.replicate j c).length = s.length + j := by simp
      have hst := HST.out j
      have HJ := Lib.hid hj
      rw [← hl] at hst
      generalize hT : s ++ List.replicate j c = T at *
      have HT := Lib.hid hT
      have HL := Lib.hid hl
      have hTpos : 0 < T.length := by omega
      have hTp : (0 : Int) < T.length := by omega
      clear hT hj
      by_cases hlt : T.length < 64
      · have hlt' : (T.length : Int) < 64 := by omega
        clear hl
        go_wp2
        go_roundw
        case rel => exact ⟨j + 1, .inr (by have := HL.out; omega), rfl, hb⟩
        case measure =>
          have := HL.out
          show 64 - (s ++ List.replicate (j + 1) c).toArray.size < 64 - T.toArray.size
          simp
          omega
      · have hge' : (64 : Int) ≤ T.length := by omega
        clear hl
        go_wp2
        go_ret
        have e1 := HL.out
        refine ⟨?_, hb⟩
        have hj : j = 64 - s.length := by have := HJ.out; omega
        rw [← HT.out, hj]
        rfl
end Go.Proofs.Ytoefpnmfeaimlaa
