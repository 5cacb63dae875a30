/- The keys of a map, sorted: Pending and Worn. -/
import Derived.Test.YtoefpnmfeaimlaaDisk2
import Derived.Test.YtoefpnmfeaimlaaLay
namespace Go.Proofs.Ytoefpnmfeaimlaa
open Go.RowKit Go.Maps Go.Sort Go.Shelf Dk

def anyR : Value → Option (DataW Unit × List MemPlace) := fun _ => some (.nil, [])

theorem own_of_map {P : Program} {w : World} {m : Nat} {k : TypeId} (hk : P.underlying k = some (.int .i64)) {l : List (Int × Value)} (h : MapI w m l) (hl : l.length ≤ 4096) (hr : ∀ p ∈ l, (Lit.int .i64 p.1).wf = true) :
    ∃ D0 : DataW Unit, w.ownsMap P k anyR m l.length D0 ∧ (intKeys D0).Perm (l.map (·.1)) ∧ Maps.size D0 = l.length := by
  obtain ⟨es, clock, hb, he, hs⟩ := h
  have hlen : es.size = l.length := by have := congrArg List.length he; simpa using this
  have hkey : ∀ x ∈ es.toList, ∃ p ∈ l, x.key = .int .i64 p.1 := by
    intro x hx
    have : x.key ∈ es.toList.map (·.key) := List.mem_map.2 ⟨x, hx, rfl⟩
    rw [esAre_keys he] at this
    obtain ⟨p, hp, hpe⟩ := List.mem_map.1 this
    exact ⟨p, hp, hpe.symm⟩
  have hrd : ∀ x ∈ es.toList, ∃ p ∈ l, x.key = .int .i64 p.1 ∧ WideElems.rd P k anyR x = some (.int .i64 p.1, .nil) := by
    intro x hx
    obtain ⟨p, hp, hpe⟩ := hkey x hx
    refine ⟨p, hp, hpe, ?_⟩
    unfold WideElems.rd
    rw [hpe, keyOf_int_mk hk (hr p hp)]
    rfl
  refine ⟨.map ((es.toList.map (WideElems.rg P k anyR)).foldr DataW.insert []), ⟨es, clock, hb, ⟨by unfold maxLen; omega, hs, fun x hx => ?_⟩, by omega, rfl⟩, ?_, ?_⟩
  · obtain ⟨p, _, _, h⟩ := hrd x hx
    exact ⟨_, h⟩
  · show (((es.toList.map (WideElems.rg P k anyR)).foldr DataW.insert []).map fun p => Go.intOf p.1).Perm _
    refine ((WideShapes.sorted_perm _).map _).trans ?_
    rw [List.map_map]
    have : es.toList.map ((fun p => Go.intOf p.1) ∘ WideElems.rg P k anyR) = l.map (·.1) := by
      have e1 : es.toList.map ((fun p => Go.intOf p.1) ∘ WideElems.rg P k anyR) = es.toList.map (fun x => match x.key with | .int _ a => a | _ => 0) := by
        apply List.map_congr_left
        intro x hx
        obtain ⟨p, hp, hpe, h⟩ := hrd x hx
        simp [WideElems.rg, h, hpe, Go.intOf]
      rw [e1]
      have e2 := congrArg (List.map (fun v : Value => match v with | .int _ a => a | _ => 0)) (esAre_keys he)
      simpa [List.map_map, Function.comp_def] using e2
    rw [this]
  · show ((es.toList.map (WideElems.rg P k anyR)).foldr DataW.insert []).length = _
    rw [(WideShapes.sorted_perm _).length_eq]
    simp [hlen]

/-- slices.Sort's two contracts at this dump, at the fence that asks nothing. -/
theorem sorts4 (m : Nat) : AnyZI.SortsIn Try.prog Try.sortedI_ren Fence.wide m :=
  ⟨fun blk off cap ss W hH hblk hsz => callsIn_wide.2 (AnyM.slices_Sort_int Try.sortI blk off cap ss W hH hblk hsz),
   fun p cap W => callsIn_wide.2 (AnyM.slices_Sort_int_none Try.sortI p cap W)⟩

set_option maxHeartbeats 1000000 in
theorem pending_core {w : World} (p b nn : Nat) (D0 : DataW Unit) (h1 : w.cell? ⟨p, 1, none⟩ = some (.map (some b))) (hown : w.ownsMap Try.prog 3 anyR b nn D0) (hmax : Maps.size D0 ≤ maxLen) (hbytes : Maps.size D0 * 8 ≤ 140737488355328) :
    Calls Try.prog 17 #[.pointer (some ⟨p, 0, none⟩)] w fun e w' => ∃ (v : Value) (ss : List Int), e = .returned v ∧ ss.Perm (intKeys D0) ∧
      w'.ownsRow w.heap.size 3 1 v ss.length ((ss.mergeSort (fun x y => decide (x ≤ y))).map encZ) ∧ (v = .slice none 0 0 ↔ ss = []) ∧ Below w.heap.size w w' := by
  refine (callsIn_wide (n := 6)).1 ?_
  have hbl := hown.lt
  have hseq : SeqGives Fence.wide 2 Try.prog 56 #[.pointer (some ⟨w.heap.size, 0, none⟩)] encZ (fun ss => ss.Perm (intKeys D0)) (Maps.size D0) (w.alloc (.cells #[.map (some b)] 64)) :=
    AnyZI.keys_gives (ρ := Try.keysB_ren) { Try.keysB with } Fence.wide _ trivial rfl (by omega) w.heap.size b nn D0 _ (by simp) (by simp) (by
      obtain ⟨es, clock, hb, Ft, hs, hD⟩ := hown
      exact ⟨es, clock, (Below.heap_alloc _ _ b hbl).trans hb, Ft, hs, hD⟩)
  have cK : ∀ mb W, CallsIn Fence.wide 5 Try.prog 34 #[.map mb] W fun e w' => e = .returned (.func (.func 56) #[] #[.pointer (some ⟨W.heap.size, 0, none⟩)]) ∧ w' = W.alloc (.cells #[.map mb] 64) := fun mb W => AnyZI.keys_in Try.keysB Fence.wide 5 trivial rfl mb W
  have cS := AnyZI.sorted_in Try.sortedI Fence.wide 5 trivial trivial trivial trivial rfl (by omega) (sorts4 _) (enters_of Try.func55 (by kernel_rfl) rfl) 56 #[.pointer (some ⟨w.heap.size, 0, none⟩)] trivial (enters_of Try.func56 (by kernel_rfl) rfl) _ _ hmax hbytes _ hseq
  change CallsIn _ _ Try.prog 33 _ _ _ at cS
  have hfK : Fence.wide.fn 34 := trivial
  have hfS : Fence.wide.fn 33 := trivial
  clear hown hmax hbytes hseq
  refine callsIn_of_wp Try.func17 rfl trivial ?_ rfl
  simp only [Try.ntmps17, List.size_toArray, List.length_cons, List.length_nil, Nat.reduceAdd, Nat.reduceSub, Array.replicate_succ, Array.replicate_zero, List.push_toArray, List.append_toArray, List.nil_append, List.cons_append]
  gi_wp2_with (first
    | (gi_at_call 34; refine (cK _ _).mono ?_; rintro e w' ⟨rfl, rfl⟩)
    | (gi_at_call 33; refine cS.mono ?_; rintro e w' ⟨v, ss, rfl, hS, hrow, hnil, hb⟩))
  go_ret
  exact ⟨v, ss, rfl, hS, ownsRow_base_a hrow (by simp), hnil, ((Below.refl _ w).alloc (Nat.le_refl _) _).trans (hb.mono (by simp))⟩

set_option maxHeartbeats 1000000 in
theorem worn_core {w : World} (p b nn : Nat) (D0 : DataW Unit) (h1 : w.cell? ⟨p, 2, none⟩ = some (.map (some b))) (hown : w.ownsMap Try.prog 3 anyR b nn D0) (hmax : Maps.size D0 ≤ maxLen) (hbytes : Maps.size D0 * 8 ≤ 140737488355328) :
    Calls Try.prog 18 #[.pointer (some ⟨p, 0, none⟩)] w fun e w' => ∃ (v : Value) (ss : List Int), e = .returned v ∧ ss.Perm (intKeys D0) ∧
      w'.ownsRow w.heap.size 3 1 v ss.length ((ss.mergeSort (fun x y => decide (x ≤ y))).map encZ) ∧ (v = .slice none 0 0 ↔ ss = []) ∧ Below w.heap.size w w' := by
  refine (callsIn_wide (n := 6)).1 ?_
  have hbl := hown.lt
  have hseq : SeqGives Fence.wide 2 Try.prog 57 #[.pointer (some ⟨w.heap.size, 0, none⟩)] encZ (fun ss => ss.Perm (intKeys D0)) (Maps.size D0) (w.alloc (.cells #[.map (some b)] 65)) :=
    AnyZI.keys_gives (ρ := Try.keysW_ren) { Try.keysW with } Fence.wide _ trivial rfl (by omega) w.heap.size b nn D0 _ (by simp) (by simp) (by
      obtain ⟨es, clock, hb, Ft, hs, hD⟩ := hown
      exact ⟨es, clock, (Below.heap_alloc _ _ b hbl).trans hb, Ft, hs, hD⟩)
  have cK : ∀ mb W, CallsIn Fence.wide 5 Try.prog 35 #[.map mb] W fun e w' => e = .returned (.func (.func 57) #[] #[.pointer (some ⟨W.heap.size, 0, none⟩)]) ∧ w' = W.alloc (.cells #[.map mb] 65) := fun mb W => AnyZI.keys_in Try.keysW Fence.wide 5 trivial rfl mb W
  have cS := AnyZI.sorted_in Try.sortedI Fence.wide 5 trivial trivial trivial trivial rfl (by omega) (sorts4 _) (enters_of Try.func55 (by kernel_rfl) rfl) 57 #[.pointer (some ⟨w.heap.size, 0, none⟩)] trivial (enters_of Try.func57 (by kernel_rfl) rfl) _ _ hmax hbytes _ hseq
  change CallsIn _ _ Try.prog 33 _ _ _ at cS
  have hfK : Fence.wide.fn 35 := trivial
  have hfS : Fence.wide.fn 33 := trivial
  clear hown hmax hbytes hseq
  refine callsIn_of_wp Try.func18 rfl trivial ?_ rfl
  simp only [Try.ntmps18, List.size_toArray, List.length_cons, List.length_nil, Nat.reduceAdd, Nat.reduceSub, Array.replicate_succ, Array.replicate_zero, List.push_toArray, List.append_toArray, List.nil_append, List.cons_append]
  gi_wp2_with (first
    | (gi_at_call 35; refine (cK _ _).mono ?_; rintro e w' ⟨rfl, rfl⟩)
    | (gi_at_call 33; refine cS.mono ?_; rintro e w' ⟨v, ss, rfl, hS, hrow, hnil, hb⟩))
  go_ret
  exact ⟨v, ss, rfl, hS, ownsRow_base_a hrow (by simp), hnil, ((Below.refl _ w).alloc (Nat.le_refl _) _).trans (hb.mono (by simp))⟩

/-! What comes out -/
/-- The value v is a slice of the call's own (from block 'base' on) that holds the numbers l. -/
def IntsAt (w : World) (base : Nat) (v : Value) (l : List Int) : Prop := w.ownsRow base 3 1 v l.length (l.map (Value.int .i64))

/-- Natural numbers as integers. -/
def ints (l : List Nat) : List Int := l.map fun n : Nat => (n : Int)
theorem nums_sorted (l : List Sec) (f : Sec → Bool) : (nums l f).Pairwise (· < ·) := by
  unfold nums
  exact (List.pairwise_lt_range).filter _
theorem mem_nums (l : List Sec) (f : Sec → Bool) (i : Nat) : i ∈ nums l f ↔ i < l.length ∧ f (l.getD i fresh) = true := by
  unfold nums
  simp
theorem perm_unique {l : List Int} {ns : List Nat} (hn : l.Nodup) (hs : ns.Pairwise (· < ·)) (h : ∀ x : Int, x ∈ l ↔ ∃ n ∈ ns, x = (n : Int)) : l.mergeSort (fun x y => decide (x ≤ y)) = ints ns := by
  have hs2 : (ints ns).Pairwise (· < ·) := by
    unfold ints
    rw [List.pairwise_map]; exact hs.imp (fun h => by omega)
  have tr : ∀ a b c : Int, decide (a ≤ b) = true → decide (b ≤ c) = true → decide (a ≤ c) = true := fun a b c h1 h2 => by simp only [decide_eq_true_eq] at *; omega
  have to : ∀ a b : Int, (decide (a ≤ b) || decide (b ≤ a)) = true := fun a b => by simp only [Bool.or_eq_true, decide_eq_true_eq]; omega
  refine List.Perm.eq_of_pairwise (le := fun a b : Int => decide (a ≤ b) = true) (fun a b _ _ h1 h2 => ?_) (List.pairwise_mergeSort tr to l) (hs2.imp (fun h => by simp; omega)) ((List.mergeSort_perm l _).trans ?_)
  · simp only [decide_eq_true_eq] at h1 h2; omega
  · refine (List.perm_ext_iff_of_nodup hn (hs2.imp (fun h => by omega))).2 fun x => ?_
    rw [h x]
    unfold ints
    rw [List.mem_map]
    exact ⟨fun ⟨n, hn, e⟩ => ⟨n, hn, e.symm⟩, fun ⟨n, hn, e⟩ => ⟨n, hn, e.symm⟩⟩
theorem mem_keys (l : List (Int × Value)) (x : Int) : x ∈ l.map (·.1) ↔ (getM l x).isSome = true := by
  unfold getM
  rw [Option.isSome_map, List.find?_isSome, List.mem_map]
  constructor
  · rintro ⟨p, hp, rfl⟩; exact ⟨p, hp, by simp⟩
  · rintro ⟨p, hp, h⟩; exact ⟨p, hp, by simpa using h⟩
theorem nodup_le {l : List Nat} {n : Nat} (hn : l.Nodup) (h : ∀ x ∈ l, x < n) : l.length ≤ n := by
  induction n generalizing l with
  | zero => cases l with
    | nil => simp
    | cons a l => exact absurd (h a (by simp)) (by omega)
  | succ n ih =>
    have h1 := ih (l := l.filter (fun x => x != n)) (hn.filter _) (fun x hx => by
      rw [List.mem_filter] at hx
      have := h x hx.1
      have : x ≠ n := by simpa using hx.2
      omega)
    have h2 : l.length ≤ (l.filter (fun x => x != n)).length + 1 := by
      clear h ih h1
      induction l with
      | nil => simp
      | cons a l ih2 =>
        rw [List.nodup_cons] at hn
        by_cases ha : a = n
        · subst ha
          have : l.filter (fun x => x != a) = l := by
            rw [List.filter_eq_self]
            intro x hx
            have : x ≠ a := fun e => hn.1 (e ▸ hx)
            simpa using this
          rw [List.filter_cons_of_neg (by simp), this]; simp
        · rw [List.filter_cons_of_pos (by simpa using ha)]
          have := ih2 hn.2
          simp; omega
    omega
theorem keys_few {l : List (Int × Value)} {n : Nat} (hn : (l.map (·.1)).Nodup) (h : ∀ x : Int, x ∈ l.map (·.1) → 0 ≤ x ∧ x < n) : l.length ≤ n := by
  have h2 : ((l.map (·.1)).map Int.toNat).Nodup := by
    rw [List.Nodup, List.pairwise_map]
    refine hn.imp_of_mem ?_
    intro a b ha hb hne e
    have := h a ha; have := h b hb
    omega
  have h3 := nodup_le h2 (n := n) (by
    intro y hy
    obtain ⟨x, hx, rfl⟩ := List.mem_map.1 hy
    have := h x hx
    omega)
  simpa using h3

theorem wf_small {n : Int} (h0 : 0 ≤ n) (h1 : n < 4096) : (Lit.int .i64 n).wf = true := by
  have e : wrap64 n = n := by unfold wrap64; omega
  rw [← e]
  exact wrap64_wf n
theorem nums_of {w : World} {m : Nat} {l : List (Int × Value)} {D : DS} (hm : MapI w m l) (hf : D.s.length ≤ 4096) (f : Sec → Bool) (h : ∀ x : Int, (getM l x).isSome = true ↔ D.has x = true ∧ f (D.sec x.toNat) = true) :
    ∃ D0 : DataW Unit, w.ownsMap Try.prog 3 anyR m l.length D0 ∧ Maps.size D0 ≤ 4096 ∧ ∀ ss : List Int, ss.Perm (intKeys D0) → ss.mergeSort (fun x y => decide (x ≤ y)) = ints (nums D.s f) := by
  have hnd : (l.map (·.1)).Nodup := by obtain ⟨es, clock, _, he, hs⟩ := hm; exact nodup_of he hs
  have hin : ∀ x : Int, x ∈ l.map (·.1) → 0 ≤ x ∧ x < D.s.length := fun x hx => has_iff.1 ((h x).1 ((mem_keys l x).1 hx)).1
  have hlen := keys_few hnd hin
  obtain ⟨D0, ho, hp, hsz⟩ := own_of_map (P := Try.prog) Try.underlying3 hm (by omega) (fun p hp => by
    have := hin p.1 (List.mem_map.2 ⟨p, hp, rfl⟩)
    exact wf_small (by omega) (by omega))
  refine ⟨D0, ho, by omega, fun ss hss => ?_⟩
  have hpl := hss.trans hp
  refine perm_unique ((hpl.nodup_iff).2 hnd) (nums_sorted _ _) (fun x => ?_)
  rw [hpl.mem_iff, mem_keys, h x]
  constructor
  · rintro ⟨h1, h2⟩
    obtain ⟨k, rfl, hk⟩ := nat_of h1
    exact ⟨k, (mem_nums _ _ _).2 ⟨hk, by simpa [DS.sec] using h2⟩, rfl⟩
  · rintro ⟨n, hn, rfl⟩
    obtain ⟨h1, h2⟩ := (mem_nums _ _ _).1 hn
    exact ⟨has_true (by omega) (by omega), by simpa [DS.sec] using h2⟩

theorem pending_any {w : World} {f : DF} {D : DS} (h : DiskAt w f D) :
    Calls Try.prog 17 #[.pointer (some ⟨f.p, 0, none⟩)] w fun e w' => ∃ v, e = .returned v ∧ IntsAt w' w.heap.size v (ints D.pend) ∧ Below w.heap.size w w' := by
  obtain ⟨c, x, lp, lw, cap, h⟩ := h
  have h1 := cell_blk h.hp 1
  simp at h1
  obtain ⟨D0, ho, hs, hq⟩ := nums_of (D := D) h.hm h.few (fun x => x.next.isSome) (fun x => by
    rw [h.hpend x]
    by_cases hx : D.has x = true
    · simp [hx]
    · simp [hx])
  refine (pending_core f.p f.mp _ D0 h1 ho (by unfold maxLen; omega) (by omega)).mono ?_
  rintro e w' ⟨v, ss, rfl, hS, hrow, _, hb⟩
  refine ⟨v, rfl, ?_, hb⟩
  have e1 := hq ss hS
  have e2 : ss.length = (ints D.pend).length := by
    rw [← (List.mergeSort_perm ss (fun x y => decide (x ≤ y))).length_eq, e1]; rfl
  rw [e1, e2] at hrow
  exact hrow
theorem worn_any {w : World} {f : DF} {D : DS} (h : DiskAt w f D) :
    Calls Try.prog 18 #[.pointer (some ⟨f.p, 0, none⟩)] w fun e w' => ∃ v, e = .returned v ∧ IntsAt w' w.heap.size v (ints D.wornL) ∧ Below w.heap.size w w' := by
  obtain ⟨c, x, lp, lw, cap, h⟩ := h
  have h1 := cell_blk h.hp 2
  simp at h1
  obtain ⟨D0, ho, hs, hq⟩ := nums_of (D := D) h.hw h.few (fun x => x.worn) (fun x => by
    rw [h.hworn x]
    by_cases hx : D.has x = true
    · by_cases hw : (D.sec x.toNat).worn = true
      · simp [hx, hw]
      · simp [hx, hw]
    · simp [hx])
  refine (worn_core f.p f.mw _ D0 h1 ho (by unfold maxLen; omega) (by omega)).mono ?_
  rintro e w' ⟨v, ss, rfl, hS, hrow, _, hb⟩
  refine ⟨v, rfl, ?_, hb⟩
  have e1 := hq ss hS
  have e2 : ss.length = (ints D.wornL).length := by
    rw [← (List.mergeSort_perm ss (fun x y => decide (x ≤ y))).length_eq, e1]; rfl
  rw [e1, e2] at hrow
  exact hrow
end Go.Proofs.Ytoefpnmfeaimlaa
