/- The arguments of the laws, opened: scripts of operations, lists of numbers; and read again. -/
import Derived.Test.YtoefpnmfeaimlaaDo
import Derived.ProofKit
import Derived.OpenShut
import Derived.ShutString
import Derived.ChangeOld
import Derived.WideKeyArgs
import Derived.Deep.Slices
namespace Go.Proofs.Ytoefpnmfeaimlaa
open Go.RowKit Dk Go.ChangeShapes

section
variable {H : Type} {enc : TypeId × Value → H}

theorem laidOut' : laidOutB Try.prog = true := by kernel_rfl
/-- An argument reads again as it did. -/
theorem read_again {t : TypeId} (hr : Try.prog.readableRec t = true) (hrow : t < Try.prog.types.size) {W W' : World} {v : Value} {d : DataW H} {ps : List MemPlace}
    (h : DataW.Trod enc Try.prog W 0 (fun _ => true) true t v d ps) (hb : Below W.heap.size W W') (hlt : ∀ p ∈ ps, p.block < W.heap.size) {sp : Nat → Bool} (hs : ∀ p ∈ ps, sp p.block = true) :
    DataW.Trod enc Try.prog W' 0 sp true t v d ps :=
  WideElems.Trod_stays laidOut' hr hrow h (fun p hp => hb.same (hlt p hp)) hs

theorem wf_i64 {n : Int} (h : (Lit.int .i64 n).wf = true) : -9223372036854775808 ≤ n ∧ n ≤ 9223372036854775807 := bounds_i64 h

theorem open_nums {t e : TypeId} {W : World} {fuel : Nat} {cs : List Value} {x : DataW H × List MemPlace} (ht : Try.prog.underlying t = some (.slice e)) (he : Try.prog.underlying e = some (.int .i64)) (hc : Try.prog.cellsOf e = 1)
    (h : DataW.trod enc Try.prog W 0 (fun _ => true) true fuel t cs = some x) : ∃ v l, cs = [v] ∧ IntsIn W [] v l ∧ ∀ n ∈ l, -9223372036854775808 ≤ n ∧ n ≤ 9223372036854775807 := by
  rcases open_ints ht he hc h with ⟨rfl, _⟩ | ⟨a, len, cap, zs, rfl, _, hl, hm, hz, _, hcell, hwf⟩
  · exact ⟨_, [], rfl, .inl ⟨rfl, none, 0, rfl⟩, by simp⟩
  · simp only [if_true] at hz
    refine ⟨_, zs.take len, rfl, ?_, fun n hn => wf_i64 (hwf n (List.mem_of_mem_take hn))⟩
    have hlen : (zs.take len).length = len := by rw [List.length_take]; omega
    by_cases h0 : len = 0
    · subst h0
      exact .inl ⟨by simp, _, _, rfl⟩
    · have c0 := hcell 0 (by omega)
      obtain ⟨b, o, s⟩ := a
      have hs : s = none := by simpa [Addr.add] using World.cell?_spot c0
      subst hs
      refine .inr ⟨b, o, cap, by rw [hlen], by simp, fun j x hx => ?_⟩
      have hj : j < len := by have := (List.getElem?_eq_some_iff.1 hx).1; omega
      rw [List.getElem?_take, if_pos hj] at hx
      have := hcell j (by omega)
      rw [Addr.add_mid] at this
      rw [this]
      simp [List.getD, hx]

theorem cells_int : Try.prog.cellsOf 3 = 1 := by kernel_rfl
theorem cells_op : Try.prog.cellsOf 44 = 5 := by kernel_rfl
theorem cells_string : Try.prog.cellsOf 9 = 1 := by kernel_rfl
theorem cells_ints : Try.prog.cellsOf 36 = 1 := by kernel_rfl

set_option maxRecDepth 100000 in
theorem open_op {W : World} {fuel : Nat} {cs : List Value} {x : DataW H × List MemPlace}
    (h : DataW.trod enc Try.prog W 0 (fun _ => true) true fuel 44 cs = some x) :
    ∃ (o : OpD) (pv : Value), cs = [.int .i64 o.kind, .int .i64 o.i, .int .i64 o.bit, strV o.text, pv] ∧ IntsIn W [] pv o.picks ∧ o.i ≤ 9223372036854775807 := by
  obtain ⟨xs, n, _, _, hcl, hxl, hf⟩ := DataW.trod_struct Try.underlying44 h
  rw [cells_op] at hcl
  match cs, hcl with
  | [c0, c1, c2, c3, c4], _ =>
    have g0 := hf 0 _ rfl
    have g1 := hf 1 _ rfl
    have g2 := hf 2 _ rfl
    have g3 := hf 3 _ rfl
    have g4 := hf 4 _ rfl
    simp only [List.getElem_toArray, List.getElem_cons_zero, List.getElem_cons_succ, cells_int, cells_string, cells_ints, List.drop_zero, List.drop_succ_cons, List.take_succ_cons, List.take_zero] at g0 g1 g2 g3 g4
    have hx : xs.length = 5 := hxl
    rw [List.getElem?_eq_getElem (by omega)] at g0 g1 g2 g3 g4
    obtain ⟨k, e0, _, _⟩ := DataW.trod_int Try.underlying3 g0
    obtain ⟨i, e1, _, w1⟩ := DataW.trod_int Try.underlying3 g1
    obtain ⟨b, e2, _, _⟩ := DataW.trod_int Try.underlying3 g2
    obtain ⟨s, e3, _, _⟩ := DataW.trod_string Try.underlying9 g3
    obtain ⟨pv, l, e4, hl, _⟩ := open_nums Try.underlying36 Try.underlying3 cells_int g4
    simp only [List.cons.injEq, and_true] at e0 e1 e2 e3 e4
    subst e0 e1 e2 e3 e4
    exact ⟨⟨k, i, b, s.data.toList, l⟩, _, rfl, hl, (wf_i64 w1).2⟩

/-- The value v is a slice that holds the operations l. -/
def OpsIn (w : World) (v : Value) (l : List OpD) : Prop :=
  (l = [] ∧ ∃ a cap, v = .slice a 0 cap) ∨ ∃ b o cap, v = .slice (some ⟨b, o, none⟩) l.length cap ∧ ∀ j x, l[j]? = some x → ∃ pv,
    w.cell? ⟨b, o + j * 5, none⟩ = some (.int .i64 x.kind) ∧ w.cell? ⟨b, o + j * 5 + 1, none⟩ = some (.int .i64 x.i) ∧ w.cell? ⟨b, o + j * 5 + 2, none⟩ = some (.int .i64 x.bit) ∧
      w.cell? ⟨b, o + j * 5 + 3, none⟩ = some (strV x.text) ∧ w.cell? ⟨b, o + j * 5 + 4, none⟩ = some pv ∧ IntsIn w [] pv x.picks ∧ x.i ≤ 9223372036854775807
theorem IntsIn.late {w W : World} {v : Value} {l : List Int} (h : IntsIn w [] v l) (hb : Below w.heap.size w W) {S : List Nat} (hS : ∀ b ∈ S, w.heap.size ≤ b) : IntsIn W S v l := by
  rcases h with h | ⟨b, o, cap, rfl, _, hc⟩
  · exact .inl h
  · by_cases h0 : l = []
    · subst h0
      exact .inl ⟨rfl, _, _, rfl⟩
    · obtain ⟨x, hx⟩ : ∃ x, l[0]? = some x := ⟨_, List.getElem?_eq_getElem (List.length_pos_iff.2 h0)⟩
      have hlt : b < w.heap.size := lt_of_cell (hc 0 x hx)
      exact .inr ⟨b, o, cap, rfl, fun hm => by have := hS b hm; omega, fun j x hx => (hb.cell (p := ⟨b, o + j, none⟩) hlt).trans (hc j x hx)⟩
theorem OpsIn.cells {w : World} {v : Value} {l : List OpD} (h : OpsIn w v l) : ∃ a cap, v = .slice a l.length cap := by
  rcases h with ⟨rfl, a, cap, h⟩ | ⟨b, o, cap, h, _⟩
  · exact ⟨a, cap, h⟩
  · exact ⟨_, _, h⟩
theorem OpsIn.place {w : World} {v : Value} {l : List OpD} (h : OpsIn w v l) (hne : l ≠ []) : ∃ b o cap, v = .slice (some ⟨b, o, none⟩) l.length cap := by
  rcases h with ⟨rfl, _⟩ | ⟨b, o, cap, h, _⟩
  · exact absurd rfl hne
  · exact ⟨_, _, _, h⟩
theorem OpsIn.at {w W : World} {b o n cap : Nat} {l : List OpD} (h : OpsIn w (.slice (some ⟨b, o, none⟩) n cap) l) (hb : Below w.heap.size w W) {j : Nat} {x : OpD} (hx : l[j]? = some x) :
    ∃ a c, (W.cell? ⟨b, o + j * 5, none⟩ = some (.int .i64 x.kind) ∧ W.cell? ⟨b, o + j * 5 + 1, none⟩ = some (.int .i64 x.i) ∧ W.cell? ⟨b, o + j * 5 + 2, none⟩ = some (.int .i64 x.bit) ∧
      W.cell? ⟨b, o + j * 5 + 3, none⟩ = some (.string ⟨x.text.toArray⟩) ∧ W.cell? ⟨b, o + j * 5 + 4, none⟩ = some (.slice a x.picks.length c)) ∧ IntsIn w [] (.slice a x.picks.length c) x.picks ∧ x.i ≤ 9223372036854775807 := by
  rcases h with ⟨rfl, _⟩ | ⟨b', o', cap', h, hc⟩
  · simp at hx
  · cases h
    obtain ⟨pv, c0, c1, c2, c3, c4, hp, hi⟩ := hc j x hx
    obtain ⟨a, c, rfl⟩ := hp.cells
    have hlt : b < w.heap.size := lt_of_cell c0
    refine ⟨a, c, ⟨?_, ?_, ?_, ?_, ?_⟩, hp, hi⟩ <;> rw [hb.cell hlt] <;> assumption

theorem open_ops {W : World} {fuel : Nat} {cs : List Value} {x : DataW H × List MemPlace}
    (h : DataW.trod enc Try.prog W 0 (fun _ => true) true fuel 39 cs = some x) : ∃ v l, cs = [v] ∧ OpsIn W v l := by
  rcases Deep.open_slice Try.underlying39 h with ⟨rfl, _⟩ | ⟨a, len, cap, m, n, D, Pl, rfl, _, hl, hm, hmm, _, hx⟩
  · exact ⟨_, [], rfl, .inl ⟨rfl, _, _, rfl⟩⟩
  · simp only [if_true] at hmm
    subst hmm
    rw [cells_op] at hx
    have each : ∀ i, i < len → ∃ o : OpD, ∃ pv, W.cell? (a.add (i * 5)) = some (.int .i64 o.kind) ∧ W.cell? ((a.add (i * 5)).add 1) = some (.int .i64 o.i) ∧ W.cell? ((a.add (i * 5)).add 2) = some (.int .i64 o.bit) ∧
        W.cell? ((a.add (i * 5)).add 3) = some (strV o.text) ∧ W.cell? ((a.add (i * 5)).add 4) = some pv ∧ IntsIn W [] pv o.picks ∧ o.i ≤ 9223372036854775807 := by
      intro i hi
      obtain ⟨cs', h1, h2⟩ := hx i (by omega)
      obtain ⟨o, pv, rfl, hp, hi⟩ := open_op h2
      obtain ⟨_, _, hc⟩ := World.cells?_some h1
      have z : ∀ a : Addr, a.add 0 = a := fun a => by simp [Addr.add]
      refine ⟨o, pv, ?_, hc 1 (by omega), hc 2 (by omega), hc 3 (by omega), hc 4 (by omega), hp, hi⟩
      have := hc 0 (by omega)
      rw [z] at this
      exact this
    by_cases h0 : len = 0
    · subst h0
      exact ⟨_, [], rfl, .inl ⟨rfl, _, _, rfl⟩⟩
    · obtain ⟨o0, pv0, c0, _⟩ := each 0 (by omega)
      obtain ⟨b, o, s⟩ := a
      have hs : s = none := by simpa [Addr.add] using World.cell?_spot c0
      subst hs
      have : Inhabited OpD := ⟨⟨0, 0, 0, [], []⟩⟩
      obtain ⟨O, hO⟩ := Deep.choose_lt (α := OpD) each
      refine ⟨_, (List.range len).map O, rfl, .inr ⟨b, o, m, by simp, fun j y hy => ?_⟩⟩
      have hj : j < len := by have := (List.getElem?_eq_some_iff.1 hy).1; simpa using this
      simp only [List.getElem?_map, List.getElem?_range hj, Option.map_some, Option.some.injEq] at hy
      subst hy
      obtain ⟨pv, k0, k1, k2, k3, k4, hp, hi⟩ := hO j hj
      rw [Addr.add_mid] at k0 k1 k2 k3 k4
      rw [Addr.add_mid] at k1 k2 k3 k4
      exact ⟨pv, k0, k1, k2, k3, k4, hp, hi⟩
end
end Go.Proofs.Ytoefpnmfeaimlaa
