/- Plain: roots of a forest and labels that are handed on. Conditions: those of each theorem. -/
import Derived.Test.YtalpjipopipncaaL03
namespace Go.Proofs.Ytalpjipopipncaa
open Go Go.RowKit

/-! ### Two vertices that an edge joins, and those that a road joins. -/
def Link (E : List Edg) (a b : Nat) : Prop := ∃ x ∈ E, (x.s = a ∧ x.d = b) ∨ (x.s = b ∧ x.d = a)
theorem Link.symm {E : List Edg} {a b : Nat} (h : Link E a b) : Link E b a := by
  obtain ⟨x, hx, h⟩ := h
  exact ⟨x, hx, h.symm⟩
inductive Conn (E : List Edg) : Nat → Nat → Prop
  | refl (a : Nat) : Conn E a a
  | step {a b c : Nat} (h : Link E a b) (k : Conn E b c) : Conn E a c
theorem Conn.trans {E : List Edg} {a b c : Nat} (h : Conn E a b) (k : Conn E b c) : Conn E a c := by
  induction h with
  | refl => exact k
  | step h _ ih => exact .step h (ih k)
theorem Conn.symm {E : List Edg} {a b : Nat} (h : Conn E a b) : Conn E b a := by
  induction h with
  | refl => exact .refl _
  | step h _ ih => exact ih.trans (.step h.symm (.refl _))
theorem Conn.const {E : List Edg} {α : Type} {f : Nat → α} (hf : ∀ a b, Link E a b → f a = f b) {a b : Nat} (h : Conn E a b) : f a = f b := by
  induction h with
  | refl => rfl
  | step h _ ih => exact (hf _ _ h).trans ih

/-! ### The document's forest. -/
theorem getD_mem {E : List Edg} {k : Nat} (hk : k < E.length) : E.getD k ⟨0, 0, 0⟩ ∈ E := by
  simp [List.getD_eq_getElem?_getD, List.getElem?_eq_getElem hk]
theorem ufR_le (E : List Edg) : ∀ k i, ufR E k i ≤ i
  | 0, i => Nat.le_refl i
  | k + 1, i => by
    have h := ufR_le E k i
    simp only [ufR]
    split <;> split <;> omega
theorem ufR_conn (E : List Edg) : ∀ k, k ≤ E.length → ∀ i, Conn E i (ufR E k i)
  | 0, _, i => .refl i
  | k + 1, hk, i => by
    have ih := ufR_conn E k (by omega)
    have hm := getD_mem (show k < E.length by omega)
    have hl : Link E (E.getD k ⟨0, 0, 0⟩).s (E.getD k ⟨0, 0, 0⟩).d := ⟨_, hm, .inl ⟨rfl, rfl⟩⟩
    simp only [ufR]
    generalize E.getD k ⟨0, 0, 0⟩ = x at *
    have hsd : Conn E (ufR E k x.s) (ufR E k x.d) := (ih x.s).symm.trans (.step hl (ih x.d))
    split
    · split
      · rename_i h
        exact (h ▸ ih i : Conn E i (ufR E k x.d)).trans hsd.symm
      · exact ih i
    · split
      · rename_i h
        exact (h ▸ ih i : Conn E i (ufR E k x.s)).trans hsd
      · exact ih i
theorem ufR_link (E : List Edg) : ∀ k, k ≤ E.length → ∀ j, j < k → ufR E k (E.getD j ⟨0, 0, 0⟩).s = ufR E k (E.getD j ⟨0, 0, 0⟩).d
  | 0, _, j, hj => by omega
  | k + 1, hk, j, hj => by
    by_cases h : j < k
    · have ih := ufR_link E k (by omega) j h
      simp only [ufR, ih]
    · obtain rfl : j = k := by omega
      simp only [ufR]
      generalize E.getD j ⟨0, 0, 0⟩ = x
      split
      · rename_i h1
        rw [if_neg (by omega)]
        simp
      · simp
theorem ufR_same (E : List Edg) (a b : Nat) (h : Link E a b) : ufR E E.length a = ufR E E.length b := by
  obtain ⟨x, hx, h⟩ := h
  obtain ⟨j, hj, rfl⟩ := List.getElem_of_mem hx
  have h1 := ufR_link E E.length (Nat.le_refl _) j hj
  have h2 : E.getD j ⟨0, 0, 0⟩ = E[j] := by simp [List.getD_eq_getElem?_getD, List.getElem?_eq_getElem hj]
  rw [h2] at h1
  rcases h with ⟨rfl, rfl⟩ | ⟨rfl, rfl⟩
  · exact h1
  · exact h1.symm

/-! ### Labels that are handed on, in the plain. -/
theorem exists_least {P : Nat → Prop} (k : Nat) (h : P k) : ∃ m, m ≤ k ∧ P m ∧ ∀ j, j < m → ¬ P j := by
  induction k using Nat.strongRecOn with
  | ind k ih =>
    by_cases h2 : ∃ j, j < k ∧ P j
    · obtain ⟨j, hj, hP⟩ := h2
      obtain ⟨m, hm, r⟩ := ih j hj hP
      exact ⟨m, by omega, r⟩
    · exact ⟨k, Nat.le_refl _, h, fun j hj hP => h2 ⟨j, hj, hP⟩⟩
theorem countP_le' {p q : Nat → Bool} : ∀ (l : List Nat), (∀ v ∈ l, p v = true → q v = true) → l.countP p ≤ l.countP q
  | [], _ => by simp
  | a :: l, h => by
    have ih := countP_le' l (fun v hv => h v (by simp [hv]))
    have ha := h a (by simp)
    rw [List.countP_cons, List.countP_cons]
    by_cases hp : p a = true
    · rw [if_pos hp, if_pos (ha hp)]; omega
    · rw [if_neg hp]; split <;> omega
theorem countP_lt' {p q : Nat → Bool} : ∀ (l : List Nat), (∀ v ∈ l, p v = true → q v = true) → ∀ v ∈ l, p v = false → q v = true → l.countP p + 1 ≤ l.countP q
  | [], _, v, hv, _, _ => by simp at hv
  | a :: l, h, v, hv, h1, h2 => by
    have hl := countP_le' l (fun v hv => h v (by simp [hv]))
    have ha := h a (by simp)
    rw [List.countP_cons, List.countP_cons]
    rcases List.mem_cons.1 hv with rfl | hv'
    · rw [if_neg (by simp [h1]), if_pos h2]; omega
    · have ih := countP_lt' l (fun v hv => h v (by simp [hv])) v hv' h1 h2
      by_cases hp : p a = true
      · rw [if_pos hp, if_pos (ha hp)]; omega
      · rw [if_neg hp]; split <;> omega

structure Spreads (E : List Edg) (n : Nat) (L : Nat → Nat → Int) (act : Nat → Nat → Prop) : Prop where
  zero : ∀ v, v < n → L 0 v = v ∧ act 0 v
  less : ∀ k v, v < n → L (k + 1) v ≤ L k v
  hand : ∀ k u v, u < n → v < n → Link E u v → act k u → L (k + 1) v ≤ L k u
  turn : ∀ k v, v < n → (act (k + 1) v ↔ L (k + 1) v < L k v)
  from' : ∀ k v, v < n → L (k + 1) v < L k v → ∃ u, u < n ∧ Link E u v ∧ act k u ∧ L k u = L (k + 1) v
section
variable {E : List Edg} {n : Nat} {L : Nat → Nat → Int} {act : Nat → Nat → Prop}
theorem Spreads.count (h : Spreads E n L act) : ∀ k v, v < n → act k v → k + 1 ≤ (List.range n).countP (fun w => decide (L k w ≤ L k v))
  | 0, v, hv, _ => by
    have := List.countP_pos_iff (p := fun w => decide (L 0 w ≤ L 0 v)).2 ⟨v, List.mem_range.2 hv, decide_eq_true (Int.le_refl (L 0 v))⟩
    omega
  | k + 1, v, hv, ha => by
    have hlt := (h.turn k v hv).1 ha
    obtain ⟨u, hu, hl, hau, he⟩ := h.from' k v hv hlt
    have ih := Spreads.count h k u hu hau
    have := countP_lt' (p := fun w => decide (L k w ≤ L k u)) (q := fun w => decide (L (k + 1) w ≤ L (k + 1) v)) (List.range n) (fun w hw hp => by
      have h1 := h.less k w (List.mem_range.1 hw)
      simp only [decide_eq_true_eq] at hp ⊢
      omega) v (List.mem_range.2 hv) (by simp only [decide_eq_false_iff_not]; omega) (by simp)
    omega
theorem Spreads.ends (h : Spreads E n L act) (hn : 1 ≤ n) : ∃ K, K < n ∧ (∀ v, v < n → ¬ act (K + 1) v) ∧ ∀ k, k < K → ∃ v, v < n ∧ act (k + 1) v := by
  have hend : ∀ v, v < n → ¬ act (n - 1 + 1) v := fun v hv ha => by
    have h1 := h.count _ v hv ha
    have h2 := List.countP_le_length (p := fun w => decide (L (n - 1 + 1) w ≤ L (n - 1 + 1) v)) (l := List.range n)
    simp at h1 h2
    omega
  obtain ⟨m, hm, h1, h2⟩ := exists_least (P := fun k => ∀ v, v < n → ¬ act (k + 1) v) (n - 1) hend
  refine ⟨m, by omega, h1, fun k hk => ?_⟩
  have := h2 k hk
  exact Classical.byContradiction fun hc => this fun v hv ha => hc ⟨v, hv, ha⟩
theorem Spreads.low (h : Spreads E n L act) : ∀ k u v, u < n → v < n → Link E u v → ¬ act k u → L k v ≤ L k u
  | 0, u, _, hu, _, _, ha => absurd (h.zero u hu).2 ha
  | k + 1, u, v, hu, hv, hl, ha => by
    have h1 := h.less k u hu
    have h2 : ¬ L (k + 1) u < L k u := fun hh => ha ((h.turn k u hu).2 hh)
    have h3 := h.less k v hv
    by_cases hk : act k u
    · have := h.hand k u v hu hv hl hk
      omega
    · have := Spreads.low h k u v hu hv hl hk
      omega
theorem Spreads.range (h : Spreads E n L act) : ∀ k v, v < n → ∃ u, u < n ∧ L k v = (u : Nat) ∧ u ≤ v ∧ Conn E v u
  | 0, v, hv => ⟨v, hv, (h.zero v hv).1, Nat.le_refl _, .refl _⟩
  | k + 1, v, hv => by
    obtain ⟨u, hu, he, hle, hc⟩ := Spreads.range h k v hv
    have h1 := h.less k v hv
    by_cases hlt : L (k + 1) v < L k v
    · obtain ⟨x, hx, hl, _, he2⟩ := h.from' k v hv hlt
      obtain ⟨y, hy, he3, _, hc3⟩ := Spreads.range h k x hx
      exact ⟨y, hy, by rw [← he2, he3], by omega, .step hl.symm hc3⟩
    · exact ⟨u, hu, by omega, hle, hc⟩
/-- Where nothing turns any more the labels are the forest's roots. -/
theorem Spreads.roots (h : Spreads E n L act) (hE : ∀ x ∈ E, x.s < n ∧ x.d < n) (K : Nat) (hK : ∀ v, v < n → ¬ act (K + 1) v) : ∀ v, v < n → L (K + 1) v = (ufR E E.length v : Nat) := by
  intro v hv
  have hlt : ∀ a b, Link E a b → a < n ∧ b < n := fun a b hl => by
    obtain ⟨x, hx, hh⟩ := hl
    have := hE x hx
    rcases hh with ⟨rfl, rfl⟩ | ⟨rfl, rfl⟩ <;> omega
  have hc : ∀ a b, Link E a b → L (K + 1) a = L (K + 1) b := fun a b hl => by
    obtain ⟨ha, hb⟩ := hlt a b hl
    have h1 := h.low (K + 1) a b ha hb hl (hK a ha)
    have h2 := h.low (K + 1) b a hb ha hl.symm (hK b hb)
    omega
  obtain ⟨u, hu, he, _, hcu⟩ := h.range (K + 1) v hv
  have h1 : ufR E E.length v ≤ u := by
    rw [Conn.const (ufR_same E) hcu]
    exact ufR_le E _ u
  have hcr := ufR_conn E E.length (Nat.le_refl _) v
  have h2 := Conn.const hc hcr
  have hrv := ufR_le E E.length v
  obtain ⟨u2, _, he2, hle2, _⟩ := h.range (K + 1) (ufR E E.length v) (by omega)
  omega
end
end Go.Proofs.Ytalpjipopipncaa
