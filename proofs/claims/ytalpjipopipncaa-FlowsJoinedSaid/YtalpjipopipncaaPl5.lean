/- Plain: groups that are made one by one are as many as the forest's roots. Conditions: those of each theorem. -/
import Derived.Test.YtalpjipopipncaaPl4
namespace Go.Proofs.Ytalpjipopipncaa
open Go Go.RowKit

/-- Two classes become one: y's members go to x. -/
def mergeF (f : Nat → Nat) (x y : Nat) (i : Nat) : Nat := if f i = y then x else f i
theorem mergeF_ker (f : Nat → Nat) (x y i j : Nat) : mergeF f x y i = mergeF f x y j ↔ (f i = f j ∨ ((f i = x ∨ f i = y) ∧ (f j = x ∨ f j = y))) := by
  unfold mergeF
  split <;> split <;> omega
theorem mergeF_idem {f : Nat → Nat} (h : ∀ i, f (f i) = f i) {x y : Nat} (hx : f x = x) (_hy : f y = y) : ∀ i, mergeF f x y (mergeF f x y i) = mergeF f x y i := by
  intro i
  unfold mergeF
  by_cases h1 : f i = y
  · rw [if_pos h1, hx]; split <;> rfl
  · rw [if_neg h1, h i, if_neg h1]
/-- How many of the first k. -/
def cnt (p : Nat → Bool) : Nat → Nat
  | 0 => 0
  | k + 1 => if p k then cnt p k + 1 else cnt p k
theorem cnt_le (p : Nat → Bool) : ∀ k, cnt p k ≤ k
  | 0 => Nat.le_refl _
  | k + 1 => by have := cnt_le p k; simp only [cnt]; split <;> omega
theorem cnt_congr {p q : Nat → Bool} : ∀ k, (∀ v, v < k → p v = q v) → cnt p k = cnt q k
  | 0, _ => rfl
  | k + 1, h => by simp only [cnt]; rw [cnt_congr k (fun v hv => h v (by omega)), h k (by omega)]
theorem cnt_drop {p q : Nat → Bool} {y : Nat} (hp : p y = true) (hq : q y = false) : ∀ k, y < k → (∀ v, v < k → v ≠ y → p v = q v) → cnt p k = cnt q k + 1
  | 0, hy, _ => by omega
  | k + 1, hy, h => by
    simp only [cnt]
    by_cases hk : y = k
    · subst hk
      rw [cnt_congr y (fun v hv => h v (by omega) (by omega)), if_pos hp, if_neg (by simp [hq])]
    · rw [cnt_drop hp hq k (by omega) (fun v hv hn => h v (by omega) hn), h k (by omega) (by omega)]
      split <;> omega
def fixB (f : Nat → Nat) (v : Nat) : Bool := decide (f v = v)
theorem fix_drop {f : Nat → Nat} (_h : ∀ i, f (f i) = f i) {x y : Nat} (hx : f x = x) (hy : f y = y) (hxy : x ≠ y) {n : Nat} (hn : y < n) : cnt (fixB f) n = cnt (fixB (mergeF f x y)) n + 1 := by
  refine cnt_drop (y := y) (by simp [fixB, hy]) (by simp [fixB, mergeF, hy, hxy]) n hn (fun v _ hv => ?_)
  have hm : mergeF f x y v = if f v = y then x else f v := rfl
  by_cases h1 : f v = y
  · rw [if_pos h1] at hm
    have h2 : ¬ f v = v := by omega
    have h3 : ¬ mergeF f x y v = v := fun e => by rw [hm] at e; subst e; omega
    simp [fixB, h2, h3]
  · rw [if_neg h1] at hm
    simp [fixB, hm]

/-- The group of a vertex behind the first k edges. -/
def grpR (E : List Edg) : Nat → Nat → Nat
  | 0, i => i
  | k + 1, i => mergeF (grpR E k) (grpR E k (E.getD k ⟨0, 0, 0⟩).s) (grpR E k (E.getD k ⟨0, 0, 0⟩).d) i
/-- How many groups are left. -/
def aptR (E : List Edg) (n : Nat) : Nat → Int
  | 0 => n
  | k + 1 => if grpR E k (E.getD k ⟨0, 0, 0⟩).s = grpR E k (E.getD k ⟨0, 0, 0⟩).d then aptR E n k else aptR E n k - 1
theorem mergeF_same (f : Nat → Nat) (x : Nat) : mergeF f x x = f := by
  funext i; unfold mergeF; split <;> omega
theorem grpR_succ (E : List Edg) (k : Nat) : grpR E (k + 1) = mergeF (grpR E k) (grpR E k (E.getD k ⟨0, 0, 0⟩).s) (grpR E k (E.getD k ⟨0, 0, 0⟩).d) := rfl
theorem ufR_succ (E : List Edg) (k : Nat) : ufR E (k + 1) = if ufR E k (E.getD k ⟨0, 0, 0⟩).s < ufR E k (E.getD k ⟨0, 0, 0⟩).d then mergeF (ufR E k) (ufR E k (E.getD k ⟨0, 0, 0⟩).s) (ufR E k (E.getD k ⟨0, 0, 0⟩).d) else mergeF (ufR E k) (ufR E k (E.getD k ⟨0, 0, 0⟩).d) (ufR E k (E.getD k ⟨0, 0, 0⟩).s) := by
  funext i
  rw [ufR]
  split <;> simp only [mergeF]
theorem grpR_idem (E : List Edg) : ∀ k i, grpR E k (grpR E k i) = grpR E k i
  | 0, _ => rfl
  | k + 1, i => by
    rw [grpR_succ]
    exact mergeF_idem (grpR_idem E k) (grpR_idem E k _) (grpR_idem E k _) i
theorem ufR_idem (E : List Edg) : ∀ k i, ufR E k (ufR E k i) = ufR E k i
  | 0, _ => rfl
  | k + 1, i => by
    rw [ufR_succ]
    split <;> exact mergeF_idem (ufR_idem E k) (ufR_idem E k _) (ufR_idem E k _) i
theorem grp_ker (E : List Edg) : ∀ k i j, grpR E k i = grpR E k j ↔ ufR E k i = ufR E k j
  | 0, _, _ => Iff.rfl
  | k + 1, i, j => by
    have ih := grp_ker E k
    rw [grpR_succ, ufR_succ, mergeF_ker]
    generalize E.getD k ⟨0, 0, 0⟩ = x
    simp only [ih]
    split
    · rw [mergeF_ker]
    · rw [mergeF_ker, or_comm (a := ufR E k i = ufR E k x.d), or_comm (a := ufR E k j = ufR E k x.d)]
theorem grpR_lt {E : List Edg} {n : Nat} (hE : ∀ x ∈ E, x.s < n ∧ x.d < n) : ∀ k, k ≤ E.length → ∀ i, i < n → grpR E k i < n
  | 0, _, i, hi => hi
  | k + 1, hk, i, hi => by
    have ih := grpR_lt hE k (by omega)
    have hm := hE _ (getD_mem (show k < E.length by omega))
    rw [grpR_succ]
    unfold mergeF
    split
    · exact ih _ hm.1
    · exact ih i hi
theorem cnt_uf {E : List Edg} {n : Nat} (hE : ∀ x ∈ E, x.s < n ∧ x.d < n) : ∀ k, k ≤ E.length → (cnt (fixB (ufR E k)) n : Int) = aptR E n k
  | 0, _ => by
    have : ∀ n, cnt (fixB (ufR E 0)) n = n := fun n => by
      induction n with
      | zero => rfl
      | succ n ih => simp only [cnt]; rw [ih]; simp [fixB, ufR]
    rw [this]; rfl
  | k + 1, hk => by
    have ih := cnt_uf hE k (by omega)
    have hm := hE _ (getD_mem (show k < E.length by omega))
    have hker := grp_ker E k (E.getD k ⟨0, 0, 0⟩).s (E.getD k ⟨0, 0, 0⟩).d
    rw [ufR_succ, aptR]
    generalize E.getD k ⟨0, 0, 0⟩ = x at *
    have hs := ufR_le E k x.s
    have hd := ufR_le E k x.d
    by_cases he : ufR E k x.s = ufR E k x.d
    · rw [if_pos (hker.2 he), he, if_neg (Nat.lt_irrefl _), mergeF_same]
      exact ih
    · rw [if_neg (fun h => he (hker.1 h))]
      split
      · have := fix_drop (ufR_idem E k) (ufR_idem E k x.s) (ufR_idem E k x.d) he (n := n) (by omega)
        omega
      · have := fix_drop (ufR_idem E k) (ufR_idem E k x.d) (ufR_idem E k x.s) (Ne.symm he) (n := n) (by omega)
        omega
end Go.Proofs.Ytalpjipopipncaa
