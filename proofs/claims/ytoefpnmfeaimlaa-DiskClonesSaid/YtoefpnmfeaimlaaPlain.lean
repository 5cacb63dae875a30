/- The plain model of the simulated disk: sectors, operations, and what they do to each other. No program here. -/
namespace Go.Proofs.Ytoefpnmfeaimlaa.Dk

/-- A sector: its content, its pending content, whether it is worn. -/
structure Sec where
  text : List UInt8
  next : Option (List UInt8)
  worn : Bool

/-- A disk. 'left': the steps that the power still lasts; none: unlimited. -/
structure DS where
  s : List Sec
  off : Bool
  left : Option Nat

def zero64 : List UInt8 := List.replicate 64 0
def fresh : Sec := ⟨zero64, none, false⟩
def DS.new (n : Nat) : DS := ⟨List.replicate n fresh, false, none⟩

/-- Well formed: every content has 64 bytes. -/
def Sec.ok (x : Sec) : Prop := x.text.length = 64 ∧ ∀ t, x.next = some t → t.length = 64
def DS.ok (d : DS) : Prop := ∀ x ∈ d.s, x.ok

def eOK : Int := 0
def eArg : Int := 1
def eDown : Int := 24

/-- A step of the power. -/
def DS.step (d : DS) : DS × Int :=
  match d.left with
  | some 0 => ({ d with off := true }, eDown)
  | some (k + 1) => ({ d with left := some k }, eOK)
  | none => (d, eOK)

def DS.has (d : DS) (i : Int) : Bool := decide (0 ≤ i) && decide (i < d.s.length)
def DS.check (d : DS) (i : Int) : Int := if d.off then eDown else if d.has i then eOK else eArg

def Sec.seen (x : Sec) : List UInt8 := x.next.getD x.text
def DS.sec (d : DS) (i : Nat) : Sec := d.s.getD i fresh
def DS.read (d : DS) (i : Int) : List UInt8 × Int :=
  if d.check i = eOK then ((d.sec i.toNat).seen, eOK) else ([], d.check i)

def DS.setSec (d : DS) (i : Nat) (x : Sec) : DS := { d with s := d.s.set i x }

def DS.writeE (d : DS) (i : Int) (t : List UInt8) : Int :=
  if d.check i ≠ eOK then d.check i else if t.length ≠ 64 then eArg else d.step.2
def DS.write (d : DS) (i : Int) (t : List UInt8) : DS :=
  if d.check i ≠ eOK then d else if t.length ≠ 64 then d
  else if d.step.2 ≠ eOK then d.step.1 else d.step.1.setSec i.toNat { d.sec i.toNat with next := some t }

/-- p clamped to 0 .. 64. -/
def clamp (p : Int) : Nat := (max 0 (min p 64)).toNat
def Sec.settle (x : Sec) (p : Int) : Sec :=
  match x.next with
  | none => x
  | some t => ⟨if x.worn then x.text else t.take (clamp p) ++ x.text.drop (clamp p), none, x.worn⟩
def DS.settle (d : DS) (i : Nat) (p : Int) : DS := d.setSec i ((d.sec i).settle p)

/-- The numbers of the sectors with a property, in increasing order. -/
def nums (l : List Sec) (f : Sec → Bool) : List Nat := (List.range l.length).filter fun i => f (l.getD i fresh)
def DS.pend (d : DS) : List Nat := nums d.s fun x => x.next.isSome
def DS.wornL (d : DS) : List Nat := nums d.s fun x => x.worn

def pickAt (picks : List Int) (k : Nat) : Int := picks.getD k 64
/-- The pending sectors l, counted from k, are settled. -/
def DS.settleAll (d : DS) (picks : List Int) (k : Nat) : List Nat → DS
  | [] => d
  | i :: l => DS.settleAll (d.settle i (pickAt picks k)) picks (k + 1) l
def DS.mount (d : DS) (picks : List Int) : DS := { d.settleAll picks 0 d.pend with off := false, left := none }
def DS.flushE (d : DS) : Int := if d.off then eDown else d.step.2
def DS.flush (d : DS) : DS := if d.off then d else if d.step.2 ≠ eOK then d.step.1 else d.step.1.settleAll [] 0 d.pend

def DS.trip (d : DS) (n : Int) : DS := { d with left := if n < 0 then none else some n.toNat }
def turnBit (t : List UInt8) (bit : Nat) : List UInt8 := t.set (bit / 8) (t.getD (bit / 8) 0 ^^^ (1 <<< (UInt8.ofNat (bit % 8))))
def DS.rotE (d : DS) (i bit : Int) : Int := if d.has i && decide (0 ≤ bit) && decide (bit < 512) then eOK else eArg
def DS.rot (d : DS) (i bit : Int) : DS :=
  if d.rotE i bit = eOK then d.setSec i.toNat { d.sec i.toNat with text := turnBit (d.sec i.toNat).text bit.toNat } else d
def DS.wearE (d : DS) (i : Int) : Int := if d.has i then eOK else eArg
def DS.wear (d : DS) (i : Int) : DS := if d.has i then d.setSec i.toNat { d.sec i.toNat with worn := true } else d
def DS.image (d : DS) : List (List UInt8) := d.s.map (·.text)

theorem has_true {d : DS} {i : Int} (h : 0 ≤ i) (h2 : i < d.s.length) : d.has i = true := by
  simp [DS.has, h, h2]
theorem has_false {d : DS} {i : Int} (h : ¬ (0 ≤ i ∧ i < d.s.length)) : d.has i = false := by
  unfold DS.has
  by_cases h0 : 0 ≤ i
  · rw [decide_eq_false (p := i < (d.s.length : Int)) (fun h2 => h ⟨h0, h2⟩)]; simp
  · rw [decide_eq_false h0]; simp
theorem has_iff {d : DS} {i : Int} : d.has i = true ↔ 0 ≤ i ∧ i < d.s.length := by
  simp [DS.has]

theorem sec_set (d : DS) (k : Nat) (x : Sec) (i : Nat) (hk : k < d.s.length) : (d.setSec k x).sec i = if i = k then x else d.sec i := by
  unfold DS.setSec DS.sec
  simp only [List.getD_eq_getElem?_getD, List.getElem?_set]
  by_cases h : k = i
  · subst h; simp [hk]
  · rw [if_neg h, if_neg (fun e => h e.symm)]
theorem len_set (d : DS) (k : Nat) (x : Sec) : (d.setSec k x).s.length = d.s.length := by simp [DS.setSec]
theorem has_set (d : DS) (k : Nat) (x : Sec) (i : Int) : (d.setSec k x).has i = d.has i := by simp [DS.has, len_set]
theorem ok_set {d : DS} (h : d.ok) {k : Nat} {x : Sec} (hx : x.ok) : (d.setSec k x).ok := by
  intro y hy
  rcases List.mem_or_eq_of_mem_set hy with hy | rfl
  · exact h y hy
  · exact hx
theorem set_sec_self (d : DS) (k : Nat) : d.setSec k (d.sec k) = d := by
  unfold DS.setSec DS.sec
  have : d.s.set k (d.s.getD k fresh) = d.s := by
    apply List.ext_getElem?
    intro i
    rw [List.getElem?_set]
    by_cases h : k = i
    · subst h
      by_cases hk : k < d.s.length
      · simp [hk]
      · simp [hk]
    · rw [if_neg h]
  rw [this]

theorem settleAll_snoc (picks : List Int) : ∀ (l : List Nat) (i : Nat) (d : DS) (k : Nat), d.settleAll picks k (l ++ [i]) = (d.settleAll picks k l).settle i (pickAt picks (k + l.length))
  | [], i, d, k => by simp [DS.settleAll]
  | a :: l, i, d, k => by
    simp only [List.cons_append, DS.settleAll, List.length_cons]
    rw [settleAll_snoc picks l i _ (k + 1)]
    congr 2
    omega
theorem settle_len (d : DS) (i : Nat) (p : Int) : (d.settle i p).s.length = d.s.length := len_set _ _ _
theorem settleAll_len (picks : List Int) : ∀ (l : List Nat) (d : DS) (k : Nat), (d.settleAll picks k l).s.length = d.s.length
  | [], _, _ => rfl
  | i :: l, d, k => by rw [DS.settleAll, settleAll_len picks l, settle_len]
theorem settle_sec (d : DS) (i : Nat) (p : Int) (j : Nat) (hi : i < d.s.length) : (d.settle i p).sec j = if j = i then (d.sec i).settle p else d.sec j := sec_set _ _ _ _ hi
theorem settleAll_sec (picks : List Int) : ∀ (l : List Nat) (d : DS) (k : Nat) (j : Nat), (∀ i ∈ l, i < d.s.length) → j ∉ l → (d.settleAll picks k l).sec j = d.sec j
  | [], _, _, _, _, _ => rfl
  | i :: l, d, k, j, hl, hj => by
    rw [DS.settleAll, settleAll_sec picks l _ _ j (fun x hx => by rw [settle_len]; exact hl x (by simp [hx])) (fun h => hj (by simp [h])), settle_sec _ _ _ _ (hl i (by simp)), if_neg (fun e => hj (by simp [e]))]
theorem pend_lt (d : DS) : ∀ i ∈ d.pend, i < d.s.length := by
  intro i hi
  unfold DS.pend nums at hi
  simp at hi
  exact hi.1
theorem pend_some (d : DS) : ∀ i ∈ d.pend, ∃ t, (d.sec i).next = some t := by
  intro i hi
  unfold DS.pend nums at hi
  simp only [List.mem_filter] at hi
  exact Option.isSome_iff_exists.1 hi.2
theorem pend_nodup (d : DS) : d.pend.Pairwise (· < ·) := by
  unfold DS.pend nums
  exact (List.pairwise_lt_range).filter _
/-- The sector that is settled next is still pending. -/
theorem pend_next (d : DS) (picks : List Int) (j : Nat) (hj : j < d.pend.length) : d.pend[j] < (d.settleAll picks 0 (d.pend.take j)).s.length ∧ ∃ t, ((d.settleAll picks 0 (d.pend.take j)).sec d.pend[j]).next = some t := by
  have hm : d.pend[j] ∈ d.pend := List.getElem_mem hj
  refine ⟨by rw [settleAll_len]; exact pend_lt d _ hm, ?_⟩
  rw [settleAll_sec picks _ _ _ _ (fun i hi => pend_lt d i (List.mem_of_mem_take hi))]
  · exact pend_some d _ hm
  · intro h
    obtain ⟨i, hi, he⟩ := List.getElem_of_mem h
    have hi2 : i < j := by simp at hi; omega
    rw [List.getElem_take] at he
    have := List.pairwise_iff_getElem.1 (pend_nodup d) i j (by omega) hj hi2
    omega
theorem settleAll_next (d : DS) (picks : List Int) (j : Nat) (hj : j < d.pend.length) : d.settleAll picks 0 (d.pend.take (j + 1)) = (d.settleAll picks 0 (d.pend.take j)).settle d.pend[j] (pickAt picks j) := by
  rw [List.take_succ_eq_append_getElem hj, settleAll_snoc]
  congr 2
  simp; omega
theorem settleAll_off (picks : List Int) : ∀ (l : List Nat) (d : DS) (k : Nat), (d.settleAll picks k l).off = d.off ∧ (d.settleAll picks k l).left = d.left
  | [], _, _ => ⟨rfl, rfl⟩
  | i :: l, d, k => by rw [DS.settleAll]; exact settleAll_off picks l _ _

end Go.Proofs.Ytoefpnmfeaimlaa.Dk
