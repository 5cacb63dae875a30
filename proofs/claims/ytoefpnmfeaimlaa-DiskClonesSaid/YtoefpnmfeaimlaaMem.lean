/- How the simulated disk lies in memory, and what the model's operations on maps and byte arrays do there. Over any program. -/
import Derived.Test.YtoefpnmfeaimlaaPlain
import Derived.WalkKit
import Derived.MapKept
import Derived.Deep.MidRow
import Derived.Deep.WholeRow
namespace Go.Proofs.Ytoefpnmfeaimlaa
open Go.RowKit

def byteV (b : UInt8) : Value := .int .u8 b.toNat
def byteVs (l : List UInt8) : List Value := l.map byteV
def strV (l : List UInt8) : Value := .string ⟨l.toArray⟩

/-- Nothing that was there has turned, but for the blocks of S. -/
structure Fr (S : List Nat) (w w' : World) : Prop where
  os : w'.os = w.os
  tape : w'.tape = w.tape
  output : w'.output = w.output
  size : w.heap.size ≤ w'.heap.size
  block : ∀ k, k < w.heap.size → k ∉ S → w'.heap[k]? = w.heap[k]?

theorem Fr.refl (S : List Nat) (w : World) : Fr S w w := ⟨rfl, rfl, rfl, Nat.le_refl _, fun _ _ _ => rfl⟩
theorem Fr.trans {S : List Nat} {a b c : World} (h : Fr S a b) (k : Fr S b c) : Fr S a c :=
  ⟨k.os.trans h.os, k.tape.trans h.tape, k.output.trans h.output, Nat.le_trans h.size k.size,
   fun i hi hs => (k.block i (Nat.lt_of_lt_of_le hi h.size) hs).trans (h.block i hi hs)⟩
theorem Fr.mono {S T : List Nat} {a b : World} (h : Fr S a b) (hs : ∀ k, k < a.heap.size → k ∈ S → k ∈ T) : Fr T a b :=
  ⟨h.os, h.tape, h.output, h.size, fun i hi ht => h.block i hi (fun e => ht (hs i hi e))⟩
theorem Fr.of_below {S : List Nat} {a b : World} (h : Below a.heap.size a b) : Fr S a b :=
  ⟨h.os, h.tape, h.output, h.size, fun i hi _ => h.block i hi⟩
theorem Fr.below {S : List Nat} {a b : World} (h : Fr S a b) {B : Nat} (hB : B ≤ a.heap.size) (hs : ∀ k ∈ S, B ≤ k) : Below B a b :=
  ⟨h.os, h.tape, h.output, h.size, fun i hi => h.block i (by omega) (fun e => by have := hs i e; omega)⟩
theorem Fr.drew {S : List Nat} {a b : World} (h : Fr S a b) : Fr S a b.drew := ⟨h.os, h.tape, h.output, h.size, h.block⟩
theorem Fr.pre_drew {S : List Nat} {a b : World} (h : Fr S a.drew b) : Fr S a b := ⟨h.os, h.tape, h.output, h.size, h.block⟩
theorem Fr.alloc {S : List Nat} {a b : World} (h : Fr S a b) (o : Obj) : Fr S a (b.alloc o) :=
  h.trans ⟨rfl, rfl, rfl, by simp, fun k hk _ => Below.heap_alloc _ _ _ hk⟩

/-- Block b holds the object o from now on. -/
def putObj (w : World) (b : Nat) (o : Obj) : World := { w with heap := w.heap.setIfInBounds b o }
theorem heap_put (w : World) (b : Nat) (o : Obj) (k : Nat) : (putObj w b o).heap[k]? = if k = b then (if b < w.heap.size then some o else none) else w.heap[k]? := by
  show (w.heap.setIfInBounds b o)[k]? = _
  rw [Array.getElem?_setIfInBounds]
  by_cases h : b = k
  · subst h; simp
  · rw [if_neg h, if_neg (fun e => h e.symm)]
theorem heap_put_ne (w : World) (b : Nat) (o : Obj) (k : Nat) (h : k ≠ b) : (putObj w b o).heap[k]? = w.heap[k]? := by
  rw [heap_put, if_neg h]
theorem heap_put_same (w : World) (b : Nat) (o : Obj) (h : b < w.heap.size) : (putObj w b o).heap[b]? = some o := by
  rw [heap_put, if_pos rfl, if_pos h]
@[simp] theorem size_put (w : World) (b : Nat) (o : Obj) : (putObj w b o).heap.size = w.heap.size := by
  simp [putObj]
theorem setCell_put (w : World) (b i : Nat) (v : Value) (c : Array Value) (t : TypeId) (fr : Nat × Nat) (h : w.heap[b]? = some (.cells c t fr)) :
    w.setCell ⟨b, i, none⟩ v = putObj w b (.cells (c.setIfInBounds i v) t fr) := by
  unfold World.setCell putObj
  congr 1
  apply Array.ext_getElem?
  intro k
  rw [Array.getElem?_modify, Array.getElem?_setIfInBounds]
  have hb : b < w.heap.size := (Array.getElem?_eq_some_iff.1 h).1
  by_cases e : b = k
  · subst e; simp only [if_true, hb, h, Option.map_some]; try simp
  · simp [e]
theorem setRow_put (w : World) (b : Nat) (c c' : Array Value) (t : TypeId) (fr : Nat × Nat) (h : w.heap[b]? = some (.cells c t fr)) :
    w.setRow b c' = putObj w b (.cells c' t fr) := by
  unfold World.setRow putObj
  congr 1
  apply Array.ext_getElem?
  intro k
  rw [Array.getElem?_modify, Array.getElem?_setIfInBounds]
  have hb : b < w.heap.size := (Array.getElem?_eq_some_iff.1 h).1
  by_cases e : b = k
  · subst e; simp only [if_true, hb, h, Option.map_some]; try simp
  · simp [e]
theorem heap_alloc_if (w : World) (o : Obj) (k : Nat) : (w.alloc o).heap[k]? = if k = w.heap.size then some o else w.heap[k]? := by
  show (w.heap.push o)[k]? = _
  rw [Array.getElem?_push]
theorem heap_alloc_lt (w : World) (o : Obj) (k : Nat) (h : k < w.heap.size) : (w.alloc o).heap[k]? = w.heap[k]? := by
  rw [heap_alloc_if, if_neg (by omega)]
theorem heap_alloc_at (w : World) (o : Obj) (k : Nat) (h : k = w.heap.size) : (w.alloc o).heap[k]? = some o := by
  rw [heap_alloc_if, if_pos h]
theorem lt_of_heap {w : World} {b : Nat} {o : Obj} (h : w.heap[b]? = some o) : b < w.heap.size := (Array.getElem?_eq_some_iff.1 h).1
theorem cell_blk {w : World} {b : Nat} {c : Array Value} {t : TypeId} {fr : Nat × Nat} (h : w.heap[b]? = some (.cells c t fr)) (i : Nat) : w.cell? ⟨b, i, none⟩ = c[i]? :=
  cell_of_row w b i c t fr h
theorem free_blk {w : World} {b : Nat} {c : Array Value} {t : TypeId} (h : w.heap[b]? = some (.cells c t (0, 0))) (i : Nat) : w.frozen? ⟨b, i, none⟩ = false :=
  frozen_of_row w b i c t h
theorem lt_of_cell {w : World} {a : Addr} {v : Value} (h : w.cell? a = some v) : a.block < w.heap.size := by
  unfold World.cell? at h
  split at h
  · rename_i e
    exact lt_of_heap e
  · cases h
theorem Fr.putObj {S : List Nat} {a b : World} (h : Fr S a b) {k : Nat} (hk : k ∈ S ∨ a.heap.size ≤ k) (o : Obj) : Fr S a (putObj b k o) := by
  refine ⟨h.os, h.tape, h.output, by rw [size_put]; exact h.size, fun i hi hs => ?_⟩
  rw [heap_put_ne _ _ _ _ (fun e => by subst e; rcases hk with hk | hk <;> first | exact hs hk | omega)]
  exact h.block i hi hs

/-! ### Maps with keys of type int -/
/-- The entries of a map read as the pairs l, in order. -/
def EsAre (es : Array MapEntry) (l : List (Int × Value)) : Prop := es.toList.map (fun e => (e.key, e.val)) = l.map fun p => (Value.int .i64 p.1, p.2)
/-- Block m is a map that holds the pairs l. -/
def MapI (w : World) (m : Nat) (l : List (Int × Value)) : Prop :=
  ∃ es clock, w.heap[m]? = some (.map es clock) ∧ EsAre es l ∧ MapKept.Stamped es clock

def getM (l : List (Int × Value)) (k : Int) : Option Value := (l.find? fun p => p.1 == k).map (·.2)
def putM (l : List (Int × Value)) (k : Int) (v : Value) : List (Int × Value) :=
  if l.any (fun p => p.1 == k) then l.map (fun p => if p.1 == k then (k, v) else p) else l ++ [(k, v)]
def delM (l : List (Int × Value)) (k : Int) : List (Int × Value) := l.filter fun p => !(p.1 == k)


theorem esAre_nil : EsAre #[] [] := rfl
theorem getM_none {l : List (Int × Value)} {k : Int} (h : ∀ p ∈ l, p.1 ≠ k) : getM l k = none := by
  unfold getM
  rw [List.find?_eq_none.2 (by intro p hp; simpa using h p hp)]; rfl
theorem putM_none {l : List (Int × Value)} {k : Int} (v : Value) (h : ∀ p ∈ l, p.1 ≠ k) : putM l k v = l ++ [(k, v)] := by
  unfold putM
  rw [if_neg]
  simp only [Bool.not_eq_true, List.any_eq_false]
  intro p hp; simpa using h p hp
theorem delM_none {l : List (Int × Value)} {k : Int} (h : ∀ p ∈ l, p.1 ≠ k) : delM l k = l := by
  unfold delM
  rw [List.filter_eq_self]
  intro p hp; simpa using h p hp
theorem split_key (l : List (Int × Value)) (k : Int) : (∀ p ∈ l, p.1 ≠ k) ∨ ∃ l1 v l2, l = l1 ++ (k, v) :: l2 ∧ ∀ p ∈ l1, p.1 ≠ k := by
  induction l with
  | nil => exact .inl (by simp)
  | cons x l ih =>
    by_cases hx : x.1 = k
    · exact .inr ⟨[], x.2, l, by rw [← hx]; rfl, by simp⟩
    · rcases ih with h | ⟨l1, v, l2, rfl, h⟩
      · exact .inl (fun p hp => (List.mem_cons.1 hp).elim (fun e => e ▸ hx) (h p))
      · exact .inr ⟨x :: l1, v, l2, rfl, fun p hp => (List.mem_cons.1 hp).elim (fun e => e ▸ hx) (h p)⟩
theorem getM_some {l1 l2 : List (Int × Value)} {k : Int} {v : Value} (h : ∀ p ∈ l1, p.1 ≠ k) : getM (l1 ++ (k, v) :: l2) k = some v := by
  unfold getM
  rw [List.find?_append, List.find?_eq_none.2 (by intro p hp; simpa using h p hp)]
  simp
theorem map_key_id {l : List (Int × Value)} {k : Int} (v : Value) (h : ∀ p ∈ l, p.1 ≠ k) : l.map (fun p => if p.1 == k then (k, v) else p) = l := by
  conv => rhs; rw [← List.map_id l]
  apply List.map_congr_left
  intro p hp
  simp [h p hp]
theorem putM_some {l1 l2 : List (Int × Value)} {k : Int} {v u : Value} (h : ∀ p ∈ l1, p.1 ≠ k) (h2 : ∀ p ∈ l2, p.1 ≠ k) : putM (l1 ++ (k, u) :: l2) k v = l1 ++ (k, v) :: l2 := by
  unfold putM
  rw [if_pos (by simp)]
  rw [List.map_append, List.map_cons, map_key_id v h, map_key_id v h2]
  simp
theorem delM_some {l1 l2 : List (Int × Value)} {k : Int} {u : Value} (h : ∀ p ∈ l1, p.1 ≠ k) (h2 : ∀ p ∈ l2, p.1 ≠ k) : delM (l1 ++ (k, u) :: l2) k = l1 ++ l2 := by
  have e1 := delM_none h; have e2 := delM_none h2
  unfold delM at *
  rw [List.filter_append, List.filter_cons, e1, e2]
  simp
theorem getM_put (l : List (Int × Value)) (k : Int) (v : Value) (i : Int) : getM (putM l k v) i = if i = k then some v else getM l i := by
  induction l with
  | nil =>
    by_cases h : i = k
    · subst h; simp [getM, putM]
    · have h' : ¬ k = i := fun e => h e.symm
      simp [getM, putM, h, h']
  | cons p l ih =>
    unfold putM getM at *
    by_cases hp : p.1 = k
    · have hb : (p.1 == k) = true := by simpa using hp
      simp only [List.any_cons, hb, Bool.true_or, if_true, List.map_cons, List.find?_cons]
      by_cases h : i = k
      · subst h; simp
      · have h1 : (k == i) = false := by simpa using fun e => h e.symm
        have h2 : (p.1 == i) = false := by rw [hp]; exact h1
        simp only [h1, h2, if_neg h]
        congr 1
        clear ih
        induction l with
        | nil => rfl
        | cons q l ih2 =>
          simp only [List.map_cons, List.find?_cons]
          by_cases hq : q.1 = k
          · have hqb : (q.1 == k) = true := by simpa using hq
            have hqi : (q.1 == i) = false := by rw [hq]; exact h1
            simp only [hqb, if_true, h1, hqi, ih2]
          · have hqb : (q.1 == k) = false := by simpa using hq
            simp only [hqb, Bool.false_eq_true, if_false, ih2]
    · have hb : (p.1 == k) = false := by simpa using hp
      simp only [List.any_cons, hb, Bool.false_or]
      by_cases ha : (l.any fun p => p.1 == k) = true
      · rw [if_pos ha] at ih ⊢
        simp only [List.map_cons, hb, Bool.false_eq_true, if_false, List.find?_cons]
        by_cases hpi : p.1 = i
        · have hpb : (p.1 == i) = true := by simpa using hpi
          have hik : ¬ i = k := fun e => hp (hpi.trans e)
          simp [hpb, hik]
        · have hpb : (p.1 == i) = false := by simpa using hpi
          simp only [hpb, ih]
      · rw [if_neg ha] at ih ⊢
        simp only [List.cons_append, List.find?_cons]
        by_cases hpi : p.1 = i
        · have hpb : (p.1 == i) = true := by simpa using hpi
          have hik : ¬ i = k := fun e => hp (hpi.trans e)
          simp [hpb, hik]
        · have hpb : (p.1 == i) = false := by simpa using hpi
          simp only [hpb, ih]
theorem getM_del (l : List (Int × Value)) (k : Int) (i : Int) : getM (delM l k) i = if i = k then none else getM l i := by
  induction l with
  | nil => by_cases h : i = k <;> simp [getM, delM, h]
  | cons p l ih =>
    unfold delM getM at *
    by_cases hp : p.1 = k
    · have hb : (p.1 == k) = true := by simpa using hp
      simp only [List.filter_cons, hb, Bool.not_true, Bool.false_eq_true, if_false, ih, List.find?_cons]
      by_cases h : i = k
      · rw [if_pos h, if_pos h]
      · have h2 : (p.1 == i) = false := by rw [hp]; simpa using fun e => h e.symm
        simp only [h2, if_neg h]
    · have hb : (p.1 == k) = false := by simpa using hp
      simp only [List.filter_cons, hb, Bool.not_false, if_true, List.find?_cons]
      by_cases hpi : p.1 = i
      · have hpb : (p.1 == i) = true := by simpa using hpi
        have hik : ¬ i = k := fun e => hp (hpi.trans e)
        simp [hpb, hik]
      · have hpb : (p.1 == i) = false := by simpa using hpi
        simp only [hpb, ih]
theorem findNow_none : ∀ (es : List MapEntry) (l : List (Int × Value)) (i : Nat) {k : Int}, es.map (fun e => (e.key, e.val)) = l.map (fun p => (Value.int .i64 p.1, p.2)) → (∀ p ∈ l, p.1 ≠ k) →
    Instr.findNow (.int .i64) (.int .i64 k) es i = some none
  | [], _, _, _, _, _ => rfl
  | e :: es, [], _, _, h, _ => by simp at h
  | e :: es, p :: l, i, k, h, hk => by
    simp only [List.map_cons, List.cons.injEq, Prod.mk.injEq] at h
    obtain ⟨⟨hkey, _⟩, hr⟩ := h
    have hp : (k == p.1) = false := by have := hk p (by simp); simp; omega
    simp only [Instr.findNow, hkey, Instr.sameNow, if_true, hp]
    exact findNow_none es l (i + 1) hr (fun q hq => hk q (by simp [hq]))
theorem findNow_some : ∀ (es : List MapEntry) (l1 l2 : List (Int × Value)) (i : Nat) {k : Int} {v : Value}, es.map (fun e => (e.key, e.val)) = (l1 ++ (k, v) :: l2).map (fun p => (Value.int .i64 p.1, p.2)) → (∀ p ∈ l1, p.1 ≠ k) →
    Instr.findNow (.int .i64) (.int .i64 k) es i = some (some (i + l1.length, v))
  | [], [], _, _, _, _, h, _ => by simp at h
  | [], _ :: _, _, _, _, _, h, _ => by simp at h
  | e :: es, [], l2, i, k, v, h, _ => by
    simp only [List.nil_append, List.map_cons, List.cons.injEq, Prod.mk.injEq] at h
    simp [Instr.findNow, h.1.1, Instr.sameNow, h.1.2]
  | e :: es, p :: l1, l2, i, k, v, h, hk => by
    simp only [List.cons_append, List.map_cons, List.cons.injEq, Prod.mk.injEq] at h
    obtain ⟨⟨hkey, _⟩, hr⟩ := h
    have hp : (k == p.1) = false := by have := hk p (by simp); simp; omega
    simp only [Instr.findNow, hkey, Instr.sameNow, if_true, hp]
    rw [findNow_some es l1 l2 (i + 1) hr (fun q hq => hk q (by simp [hq]))]
    simp; omega
section
variable {P : Program} {w : World} {m : Nat} {t k e : TypeId}
theorem run_findKey_int (hk : P.underlying k = some (.int .i64)) {es : List MapEntry} {x : Int} {r : Option (Nat × Value)} (h : Instr.findNow (.int .i64) (.int .i64 x) es 0 = some r) :
    (Instr.findKey k (.int .i64 x) es).run P w = .ok r w := by
  simp [Instr.findKey, run_underlying hk, h, Result.andThen]
theorem run_checkKey_int (hk : P.underlying k = some (.int .i64)) (b : Bool) (x : Int) : (Instr.checkKey b 10000 k (.int .i64 x)).run P w = .ok () w := by
  show (Instr.checkKey b (9999 + 1) k (.int .i64 x)).run P w = _
  rw [Instr.checkKey]
  simp [run_underlying hk, Result.andThen]
/-- 'm[x]'. -/
theorem run_lookup_map (ht : P.underlying t = some (.map k e)) (hk : P.underlying k = some (.int .i64)) {z : Value} (hz : ∀ W : World, (zeroValue e).run P W = .ok z W) {l : List (Int × Value)} (hm : MapI w m l) (x : Int) :
    (Instr.lookup t (.map (some m)) (.int .i64 x) false).run P w = .ok ((getM l x).getD z) w := by
  obtain ⟨es, clock, hb, he, _⟩ := hm
  rcases split_key l x with h | ⟨l1, v, l2, rfl, h⟩
  · have hf := findNow_none es.toList l 0 he h
    rw [getM_none h]
    simp [Instr.lookup, run_underlying ht, MapKept.run_getObj_map hb, run_checkKey_int hk, run_findKey_int hk hf, hz, Result.andThen]
  · have hf := findNow_some es.toList l1 l2 0 he h
    rw [getM_some h]
    simp [Instr.lookup, run_underlying ht, MapKept.run_getObj_map hb, run_checkKey_int hk, run_findKey_int hk hf, Result.andThen]
/-- 'v, ok := m[x]'. -/
theorem run_lookup_map_ok (ht : P.underlying t = some (.map k e)) (hk : P.underlying k = some (.int .i64)) {z : Value} (hz : ∀ W : World, (zeroValue e).run P W = .ok z W) {l : List (Int × Value)} (hm : MapI w m l) (x : Int) :
    (Instr.lookup t (.map (some m)) (.int .i64 x) true).run P w = .ok (.tuple #[(getM l x).getD z, .bool (getM l x).isSome]) w := by
  obtain ⟨es, clock, hb, he, _⟩ := hm
  rcases split_key l x with h | ⟨l1, v, l2, rfl, h⟩
  · have hf := findNow_none es.toList l 0 he h
    rw [getM_none h]
    simp [Instr.lookup, run_underlying ht, MapKept.run_getObj_map hb, run_checkKey_int hk, run_findKey_int hk hf, hz, Result.andThen]
  · have hf := findNow_some es.toList l1 l2 0 he h
    rw [getM_some h]
    simp [Instr.lookup, run_underlying ht, MapKept.run_getObj_map hb, run_checkKey_int hk, run_findKey_int hk hf, Result.andThen]

theorem esAre_keys {es : Array MapEntry} {l : List (Int × Value)} (h : EsAre es l) : es.toList.map (·.key) = l.map fun p => Value.int .i64 p.1 := by
  have := congrArg (List.map Prod.fst) h
  simpa [List.map_map, Function.comp_def] using this
theorem nodup_of {es : Array MapEntry} {l : List (Int × Value)} {c : Nat} (h : EsAre es l) (hs : MapKept.Stamped es c) : (l.map (·.1)).Nodup := by
  have h1 := ((MapKept.stamped_iff es c).1 hs).2.2
  have h2 : (es.toList.map (·.key)).Pairwise (· ≠ ·) := by rw [List.pairwise_map]; exact h1
  rw [esAre_keys h, List.pairwise_map] at h2
  rw [List.Nodup, List.pairwise_map]
  exact h2.imp (fun h e => h (by rw [e]))
theorem others_of {l1 l2 : List (Int × Value)} {k : Int} {v : Value} (h : ((l1 ++ (k, v) :: l2).map (·.1)).Nodup) : (∀ p ∈ l1, p.1 ≠ k) ∧ ∀ p ∈ l2, p.1 ≠ k := by
  simp only [List.map_append, List.map_cons, List.nodup_append, List.nodup_cons, List.mem_map] at h
  obtain ⟨_, ⟨h2, _⟩, h3⟩ := h
  refine ⟨fun p hp e => h3 p.1 ⟨p, hp, rfl⟩ k (by simp) e, fun p hp e => h2 ⟨p, hp, e⟩⟩
theorem keyStays (x : Int) : (Instr.keyThatStays (.int .i64 x) (.int .i64 x)).run P w = .ok (.int .i64 x) w := by
  have : Instr.sameBits (9999 + 1) (.int .i64 x) (.int .i64 x) = true := by simp [Instr.sameBits]
  unfold Instr.keyThatStays
  rw [show Instr.sameBits 10000 (.int .i64 x) (.int .i64 x) = true from this]
  simp
/-- 'm[x] = v'. -/
theorem run_update_map (ht : P.underlying t = some (.map k e)) (hk : P.underlying k = some (.int .i64)) {l : List (Int × Value)} (hm : MapI w m l) (x : Int) (v : Value) :
    ∃ es' clock', (∀ w', w'.heap[m]? = w.heap[m]? → (Instr.mapUpdate t (.map (some m)) (.int .i64 x) v).run P w' = .ok () (putObj w' m (.map es' clock'))) ∧ EsAre es' (putM l x v) ∧ MapKept.Stamped es' clock' := by
  obtain ⟨es, clock, hb, he, hs⟩ := hm
  rcases split_key l x with h | ⟨l1, u, l2, rfl, h⟩
  · have hf := findNow_none es.toList l 0 he h
    refine ⟨es.push { key := .int .i64 x, val := v, born := clock }, clock + 1, ?_, ?_, MapKept.stamped_push hs ?_⟩
    · intro w' hw'
      rw [hb] at hw'
      simp [Instr.mapUpdate, run_underlying ht, MapKept.run_getObj_map hw', run_checkKey_int hk, run_findKey_int hk hf, MapKept.run_setObj_map _ hw', Result.andThen, putObj]
    · rw [putM_none v h]
      unfold EsAre at *
      simp [he]
    · intro y hy hye
      have : y.key ∈ es.toList.map (·.key) := List.mem_map.2 ⟨y, hy, rfl⟩
      rw [esAre_keys he, hye] at this
      obtain ⟨p, hp, hpe⟩ := List.mem_map.1 this
      exact h p hp (by simpa using hpe)
  · have hn := nodup_of he hs
    obtain ⟨_, h2⟩ := others_of hn
    have hf := findNow_some es.toList l1 l2 0 he h
    have hlen : es.toList.length = (l1 ++ (x, u) :: l2).length := by have := congrArg List.length he; simpa using this
    have hi : l1.length < es.size := by simp at hlen; omega
    obtain ⟨e0, he0⟩ : ∃ e0, es[l1.length]? = some e0 := ⟨_, Array.getElem?_eq_getElem hi⟩
    have hkv : (e0.key, e0.val) = (Value.int .i64 x, u) := by
      have := congrArg (fun l => l[l1.length]?) he
      simp [he0] at this
      simp [this]
    have hk0 : e0.key = .int .i64 x := (Prod.mk.inj hkv).1
    refine ⟨es.modify l1.length fun y => { y with key := .int .i64 x, val := v }, clock, ?_, ?_, ?_⟩
    · intro w' hw'
      rw [hb] at hw'
      have hks := keyStays (P := P) (w := w') x
      simp [Instr.mapUpdate, run_underlying ht, MapKept.run_getObj_map hw', run_checkKey_int hk, run_findKey_int hk hf, MapKept.run_setObj_map _ hw', Result.andThen, putObj, he0, hk0, hks]
    · rw [putM_some h h2]
      unfold EsAre at *
      apply List.ext_getElem?
      intro j
      have hj := congrArg (fun l => l[j]?) he
      simp only [List.getElem?_map, Array.getElem?_toList, Array.getElem?_modify] at hj ⊢
      by_cases hjl : l1.length = j
      · subst hjl
        simp [he0]
      · rw [if_neg hjl, hj]
        congr 1
        by_cases hjl2 : j < l1.length
        · rw [List.getElem?_append_left hjl2, List.getElem?_append_left hjl2]
        · rw [List.getElem?_append_right (by omega), List.getElem?_append_right (by omega)]
          obtain ⟨q, hq⟩ : ∃ q, j - l1.length = q + 1 := ⟨j - l1.length - 1, by omega⟩
          rw [hq]; simp
    · exact MapKept.stamped_modify hs _ _ (fun _ _ => rfl) (fun y _ hy => by rw [he0] at hy; cases hy; exact hk0.symm)
/-- 'delete(m, x)'. -/
theorem run_delete_map {ty : TypeId} (ht : P.underlying t = some (.map k e)) (hk : P.underlying k = some (.int .i64)) {l : List (Int × Value)} (hm : MapI w m l) (x : Int) :
    ∃ es' clock', (∀ w', w'.heap[m]? = w.heap[m]? → (Builtin.delete_ #[t, k] ty #[.map (some m), .int .i64 x]).run P w' = .ok (.tuple #[]) (putObj w' m (.map es' clock'))) ∧ EsAre es' (delM l x) ∧ MapKept.Stamped es' clock' := by
  obtain ⟨es, clock, hb, he, hs⟩ := hm
  rcases split_key l x with h | ⟨l1, u, l2, rfl, h⟩
  · have hf := findNow_none es.toList l 0 he h
    refine ⟨es, clock, ?_, ?_, hs⟩
    · intro w' hw'
      rw [hb] at hw'
      simp [Builtin.delete_, run_underlying ht, MapKept.run_getObj_map hw', run_checkKey_int hk, run_findKey_int hk hf, MapKept.run_setObj_map _ hw', Result.andThen, putObj]
    · rw [delM_none h]; exact he
  · have hn := nodup_of he hs
    obtain ⟨_, h2⟩ := others_of hn
    have hf := findNow_some es.toList l1 l2 0 he h
    have hl : (es.eraseIdxIfInBounds l1.length).toList = es.toList.eraseIdx l1.length := by
      unfold Array.eraseIdxIfInBounds
      split
      · simp
      · rename_i hge
        rw [List.eraseIdx_of_length_le]
        simpa using hge
    refine ⟨es.eraseIdxIfInBounds l1.length, clock, ?_, ?_, ?_⟩
    · intro w' hw'
      rw [hb] at hw'
      simp [Builtin.delete_, run_underlying ht, MapKept.run_getObj_map hw', run_checkKey_int hk, run_findKey_int hk hf, MapKept.run_setObj_map _ hw', Result.andThen, putObj]
    · rw [delM_some h h2]
      unfold EsAre at *
      have hm : ∀ (f : MapEntry → Value × Value) (q : List MapEntry) (n : Nat), (q.eraseIdx n).map f = (q.map f).eraseIdx n := by
        intro f q
        induction q with
        | nil => intro n; rfl
        | cons y q ih => intro n; cases n with
          | zero => rfl
          | succ n => simp [ih]
      rw [hl, hm, he, List.map_append, List.map_append, List.eraseIdx_append_of_length_le (by simp)]
      simp
    · rw [MapKept.stamped_iff] at hs ⊢
      rw [hl]
      have hsub : (es.toList.eraseIdx l1.length).Sublist es.toList := List.eraseIdx_sublist _ _
      exact ⟨fun y hy => hs.1 y (hsub.subset hy), (hsub.map _).nodup hs.2.1, hs.2.2.sublist hsub⟩
end
end Go.Proofs.Ytoefpnmfeaimlaa
