/- Plain: rounds over all edges of a graph with weights, when they come to rest, and the reasons of what they find. Conditions: those of each theorem. -/
import Derived.Test.YtalpjipopipncaaPl3
import Derived.Test.YtalpjipopipncaaWay
namespace Go.Proofs.Ytalpjipopipncaa
open Go Go.RowKit

/-- Distances that fall from round to round. -/
structure Bell (E : List Edg) (s : Nat) (wt : Nat → Int) (L : Nat → Nat → Int) : Prop where
  zero : ∀ v, L 0 v = if v = s then 0 else ENDL
  le : ∀ k v, L (k + 1) v ≤ L k v
  low : ∀ k, ∀ x ∈ E, L k x.s ≠ ENDL → L (k + 1) x.d ≤ L k x.s + wt x.w
  is : ∀ k v, L (k + 1) v < L k v → ∃ x ∈ E, x.d = v ∧ L k x.s ≠ ENDL ∧ L (k + 1) v = L k x.s + wt x.w

/-- The round in which a distance was found. -/
def rdD (L : Nat → Nat → Int) : Nat → Nat → Int
  | 0, _ => 0
  | k + 1, v => if L (k + 1) v < L k v then (k : Int) + 1 else rdD L k v
theorem rdD_le (L : Nat → Nat → Int) : ∀ k v, 0 ≤ rdD L k v ∧ rdD L k v ≤ k
  | 0, _ => ⟨Int.le_refl _, Int.le_refl _⟩
  | k + 1, v => by
    have := rdD_le L k v
    simp only [rdD]
    split <;> omega

section
variable {E : List Edg} {n s : Nat} {wt : Nat → Int} {L : Nat → Nat → Int}
theorem Bell.anti (h : Bell E s wt L) : ∀ k j v, L (j + k) v ≤ L j v
  | 0, _, _ => Int.le_refl _
  | k + 1, j, v => Int.le_trans (h.le (j + k) v) (h.anti k j v)
theorem Bell.anti' (h : Bell E s wt L) {j k : Nat} (hjk : j ≤ k) (v : Nat) : L k v ≤ L j v := by
  have := h.anti (k - j) j v
  rwa [show j + (k - j) = k by omega] at this
theorem Bell.top (h : Bell E s wt L) (k v : Nat) : L k v ≤ ENDL := by
  have h1 := h.anti' (Nat.zero_le k) v
  rw [h.zero] at h1
  unfold ENDL at *
  split at h1 <;> omega
theorem Bell.src (h : Bell E s wt L) (k : Nat) : L k s ≤ 0 := by
  have h1 := h.anti' (Nat.zero_le k) s
  rwa [h.zero, if_pos rfl] at h1
theorem Bell.bnd (h : Bell E s wt L) (hw : ∀ w, -2147483648 ≤ wt w ∧ wt w ≤ 2147483647) : ∀ k v, L k v = ENDL ∨ (-((k : Int) * 2147483648) ≤ L k v ∧ L k v ≤ (k : Int) * 2147483648)
  | 0, v => by
    rw [h.zero]
    split
    · exact .inr (by omega)
    · exact .inl rfl
  | k + 1, v => by
    have hl := h.le k v
    by_cases hlt : L (k + 1) v < L k v
    · obtain ⟨x, _, _, h1, h2⟩ := h.is k v hlt
      have := hw x.w
      rcases h.bnd hw k x.s with h3 | h3
      · exact absurd h3 h1
      · exact .inr (by omega)
    · have e : L (k + 1) v = L k v := by omega
      rw [e]
      rcases h.bnd hw k v with h3 | h3
      · exact .inl h3
      · exact .inr (by omega)
theorem Bell.stale (h : Bell E s wt L) (k : Nat) (x : Edg) (hx : x ∈ E) (hr : rdD L k x.s ≠ k) (hn : L k x.s ≠ ENDL) : L k x.d ≤ L k x.s + wt x.w := by
  cases k with
  | zero => exact absurd rfl hr
  | succ k =>
    have hl := h.le k x.s
    have e : L (k + 1) x.s = L k x.s := by
      by_cases hlt : L (k + 1) x.s < L k x.s
      · simp only [rdD, if_pos hlt] at hr
        exact absurd (by omega) hr
      · omega
    rw [e] at hn ⊢
    exact h.low k x hx hn
/-- What is offered by those whose own is new gives the same round. -/
theorem Bell.next (h : Bell E s wt L) (k v : Nat) (m : Int) (h1 : m = ENDL ∨ ∃ x ∈ E, x.d = v ∧ rdD L k x.s = k ∧ L k x.s ≠ ENDL ∧ m = L k x.s + wt x.w)
    (h2 : ∀ x ∈ E, x.d = v → rdD L k x.s = k → L k x.s ≠ ENDL → m ≤ L k x.s + wt x.w) : L (k + 1) v = if m < L k v then m else L k v := by
  have ht := h.top k v
  have hle := h.le k v
  have h3 : L (k + 1) v < L k v → m ≤ L (k + 1) v := fun hlt => by
    obtain ⟨x, hx, rfl, hn, he⟩ := h.is k v hlt
    by_cases hr : rdD L k x.s = k
    · rw [he]; exact h2 x hx rfl hr hn
    · have := h.stale k x hx hr hn
      omega
  split
  · rename_i hm
    rcases h1 with h1 | ⟨x, hx, rfl, _, hn, he⟩
    · omega
    · have := h.low k x hx hn
      have := h3 (by omega)
      omega
  · rename_i hm
    by_cases hlt : L (k + 1) v < L k v
    · have := h3 hlt
      omega
    · omega

/-! ### At rest -/
def restD (L : Nat → Nat → Int) (n k : Nat) : Prop := ∀ v, v < n → ¬ L (k + 1) v < L k v
theorem Bell.relax (h : Bell E s wt L) (hE : ∀ x ∈ E, x.s < n ∧ x.d < n) {K : Nat} (hK : restD L n K) (x : Edg) (hx : x ∈ E) (hn : L K x.s ≠ ENDL) : L K x.d ≤ L K x.s + wt x.w := by
  have h1 := h.low K x hx hn
  have h2 := hK x.d (hE x hx).2
  omega
theorem Bell.pot (h : Bell E s wt L) (hw : ∀ w, -2147483648 ≤ wt w ∧ wt w ≤ 2147483647) (hE : ∀ x ∈ E, x.s < n ∧ x.d < n) {K : Nat} (hK : restD L n K) : ∀ j, j ≤ 1000 → ∀ v, L j v ≠ ENDL → L K v ≤ L K s + L j v
  | 0, _, v, hv => by
    rw [h.zero] at hv ⊢
    split at hv
    · subst_vars; rw [if_pos rfl]; omega
    · exact absurd rfl hv
  | j + 1, hj, v, hv => by
    have ih := h.pot hw hE hK j (by omega)
    by_cases hlt : L (j + 1) v < L j v
    · obtain ⟨x, hx, rfl, hn, he⟩ := h.is j v hlt
      have h1 := ih x.s hn
      have h2 := h.src K
      have h3 := h.bnd hw j x.s
      have h4 : L K x.s ≠ ENDL := by
        rcases h3 with h3 | h3
        · exact absurd h3 hn
        · unfold ENDL; omega
      have := h.relax hE hK x hx h4
      omega
    · have := h.le j v
      have e : L (j + 1) v = L j v := by omega
      rw [e] at hv ⊢
      exact ih v hv
theorem Bell.src0 (h : Bell E s wt L) (hw : ∀ w, -2147483648 ≤ wt w ∧ wt w ≤ 2147483647) (hE : ∀ x ∈ E, x.s < n ∧ x.d < n) {K : Nat} (hK : restD L n K) (hK4 : K ≤ 1000) : L K s = 0 := by
  have h1 := h.src K
  have h2 := h.pot hw hE hK K hK4 s (by unfold ENDL; omega)
  omega
theorem rdD_const (h : Bell E s wt L) : ∀ d m v, L (m + d) v = L m v → rdD L (m + d) v = rdD L m v
  | 0, _, _, _ => rfl
  | d + 1, m, v, he => by
    have h1 := h.le (m + d) v
    have h2 := h.anti d m v
    have e : L (m + (d + 1)) v = L (m + d + 1) v := rfl
    have h3 : L (m + d) v = L m v := by omega
    have ih := rdD_const h d m v h3
    show (if L (m + d + 1) v < L (m + d) v then _ else rdD L (m + d) v) = _
    rw [if_neg (by omega), ih]
theorem Bell.rd0 (h : Bell E s wt L) (k v : Nat) (he : L k v = L 0 v) : rdD L k v = 0 := by
  have := rdD_const h k 0 v (by rwa [Nat.zero_add])
  rwa [Nat.zero_add] at this
theorem Bell.last (h : Bell E s wt L) : ∀ k v, L k v = L 0 v ∨ ∃ m, m < k ∧ rdD L k v = (m : Int) + 1 ∧ L k v = L (m + 1) v ∧ L (m + 1) v < L m v
  | 0, _ => .inl rfl
  | k + 1, v => by
    by_cases hlt : L (k + 1) v < L k v
    · exact .inr ⟨k, by omega, by simp only [rdD, if_pos hlt], rfl, hlt⟩
    · have := h.le k v
      have e : L (k + 1) v = L k v := by omega
      rcases h.last k v with h1 | ⟨m, h1, h2, h3, h4⟩
      · exact .inl (e.trans h1)
      · exact .inr ⟨m, by omega, by simp only [rdD, if_neg hlt]; exact h2, e.trans h3, h4⟩
/-- Of each vertex that is reached, but the source: the edge that tells why. -/
theorem Bell.held (h : Bell E s wt L) (hE : ∀ x ∈ E, x.s < n ∧ x.d < n) {K : Nat} (hK : restD L n K) (hw : ∀ w, -2147483648 ≤ wt w ∧ wt w ≤ 2147483647) (hK4 : K ≤ 1000) (v : Nat) (hvs : v ≠ s) (hv : L K v ≠ ENDL) :
    ∃ x ∈ E, x.d = v ∧ L K x.s ≠ ENDL ∧ L K x.s + wt x.w = L K v ∧ rdD L K x.s < rdD L K v := by
  rcases h.last K v with h1 | ⟨m, hm, h2, h3, h4⟩
  · rw [h.zero, if_neg hvs] at h1
    exact absurd h1 hv
  · obtain ⟨x, hx, hd, hn, he⟩ := h.is m v h4
    have ha := h.anti' (show m ≤ K by omega) x.s
    have hb := h.bnd hw m x.s
    have hn2 : L K x.s ≠ ENDL := by
      rcases hb with hb | hb
      · exact absurd hb hn
      · unfold ENDL; omega
    have hr := h.relax hE hK x hx hn2
    rw [hd] at hr
    have e : L K x.s = L m x.s := by omega
    have h5 := rdD_const h (K - m) m x.s (by rw [show m + (K - m) = K by omega]; exact e)
    rw [show m + (K - m) = K by omega] at h5
    have h6 := rdD_le L m x.s
    exact ⟨x, hx, hd, hn2, by omega, by omega⟩
/-- Where each edge weighs one, the rounds come to rest in time. -/
theorem Bell.count (h : Bell E s wt L) (h1 : ∀ w, wt w = 1) (hE : ∀ x ∈ E, x.s < n ∧ x.d < n) (hs : s < n) : ∀ k v, v < n → L (k + 1) v < L k v → k + 2 ≤ (List.range n).countP (fun w => decide (L (k + 1) w ≤ L (k + 1) v))
  | 0, v, hv, hlt => by
    obtain ⟨x, hx, rfl, hn, he⟩ := h.is 0 v hlt
    have hz := h.zero x.s
    rw [h1] at he
    by_cases hxs : x.s = s
    · rw [if_pos hxs] at hz
      have hsr := h.src 1
      have hds : x.d ≠ s := fun hd => by
        have := h.zero x.d
        rw [if_pos hd] at this
        omega
      have h2 := List.countP_pos_iff (p := fun w => decide (w = s)) (l := List.range n) |>.2 ⟨s, List.mem_range.2 hs, by simp⟩
      have := countP_lt' (p := fun w => decide (w = s)) (q := fun w => decide (L 1 w ≤ L 1 x.d)) (List.range n) (fun w _ hp => by
        simp only [decide_eq_true_eq] at hp ⊢
        subst hp
        have he2 : L 1 x.d = L 0 x.s + 1 := he
        omega) x.d (List.mem_range.2 hv) (by simp [hds]) (by simp)
      show 0 + 2 ≤ (List.range n).countP (fun w => decide (L 1 w ≤ L 1 x.d))
      omega
    · rw [if_neg hxs] at hz
      exact absurd hz hn
  | k + 1, v, hv, hlt => by
    obtain ⟨x, hx, rfl, hn, he⟩ := h.is (k + 1) v hlt
    rw [h1] at he
    have hl := h.le k x.s
    have hch : L (k + 1) x.s < L k x.s := by
      by_cases hlt2 : L (k + 1) x.s < L k x.s
      · exact hlt2
      · have e : L (k + 1) x.s = L k x.s := by omega
        have := h.low k x hx (by rwa [e] at hn)
        rw [h1] at this
        omega
    have ih := h.count h1 hE hs k x.s (hE x hx).1 hch
    have := countP_lt' (p := fun w => decide (L (k + 1) w ≤ L (k + 1) x.s)) (q := fun w => decide (L (k + 1 + 1) w ≤ L (k + 1 + 1) x.d)) (List.range n) (fun w _ hp => by
      have h2 := h.le (k + 1) w
      simp only [decide_eq_true_eq] at hp ⊢
      omega) x.d (List.mem_range.2 hv) (by simp only [decide_eq_false_iff_not]; omega) (by simp)
    omega
theorem Bell.plain_rest (h : Bell E s wt L) (h1 : ∀ w, wt w = 1) (hE : ∀ x ∈ E, x.s < n ∧ x.d < n) (hs : s < n) : restD L n (n - 1) := fun v hv hlt => by
  have h2 := h.count h1 hE hs (n - 1) v hv hlt
  have h3 := List.countP_le_length (p := fun w => decide (L (n - 1 + 1) w ≤ L (n - 1 + 1) v)) (l := List.range n)
  simp at h2 h3
  omega
end
theorem rest_ends (L : Nat → Nat → Int) (n : Nat) : (∃ K, K < n ∧ restD L n K ∧ ∀ k, k < K → ¬ restD L n k) ∨ ∀ k, k < n → ¬ restD L n k := by
  by_cases h : ∃ k, k < n ∧ restD L n k
  · obtain ⟨k, hk, hr⟩ := h
    obtain ⟨m, hm, h1, h2⟩ := exists_least (P := restD L n) k hr
    exact .inl ⟨m, by omega, h1, h2⟩
  · exact .inr fun k hk hr => h ⟨k, hk, hr⟩

/-! ### The rounds over all edges, one edge at a time. -/
def rlx (f : Nat) (B D : Nat → Int) (x : Edg) : Nat → Int := fun v => if B x.s ≠ ENDL ∧ v = x.d ∧ B x.s + wtI f x.w < D v then B x.s + wtI f x.w else D v
def rlxT (f : Nat) (E : List Edg) (B : Nat → Int) : Nat → (Nat → Int)
  | 0 => B
  | k + 1 => rlx f B (rlxT f E B k) (E.getD k ⟨0, 0, 0⟩)
def bfD (f : Nat) (E : List Edg) (s : Nat) : Nat → Nat → Int
  | 0 => fun v => if v = s then 0 else ENDL
  | k + 1 => rlxT f E (bfD f E s k) E.length
theorem rlxT_spec (f : Nat) (E : List Edg) (B : Nat → Int) : ∀ k, k ≤ E.length → (∀ v, rlxT f E B k v ≤ B v) ∧ (∀ j, j < k → B (E.getD j ⟨0, 0, 0⟩).s ≠ ENDL → rlxT f E B k (E.getD j ⟨0, 0, 0⟩).d ≤ B (E.getD j ⟨0, 0, 0⟩).s + wtI f (E.getD j ⟨0, 0, 0⟩).w) ∧
    (∀ v, rlxT f E B k v < B v → ∃ x ∈ E, x.d = v ∧ B x.s ≠ ENDL ∧ rlxT f E B k v = B x.s + wtI f x.w)
  | 0, _ => ⟨fun _ => Int.le_refl _, fun j hj => by omega, fun v h => absurd h (Int.lt_irrefl _)⟩
  | k + 1, hk => by
    obtain ⟨h1, h2, h3⟩ := rlxT_spec f E B k (by omega)
    have hm := getD_mem (show k < E.length by omega)
    have hr : rlxT f E B (k + 1) = rlx f B (rlxT f E B k) (E.getD k ⟨0, 0, 0⟩) := rfl
    rw [hr]
    have hle : ∀ v, rlx f B (rlxT f E B k) (E.getD k ⟨0, 0, 0⟩) v ≤ rlxT f E B k v := fun v => by
      unfold rlx
      split <;> omega
    refine ⟨fun v => Int.le_trans (hle v) (h1 v), fun j hj hn => ?_, fun v hv => ?_⟩
    · by_cases hjk : j = k
      · subst hjk
        unfold rlx
        split
        · omega
        · rename_i hc
          by_cases hlt : B (E.getD j ⟨0, 0, 0⟩).s + wtI f (E.getD j ⟨0, 0, 0⟩).w < rlxT f E B j (E.getD j ⟨0, 0, 0⟩).d
          · exact absurd ⟨hn, rfl, hlt⟩ hc
          · omega
      · exact Int.le_trans (hle _) (h2 j (by omega) hn)
    · unfold rlx at hv ⊢
      by_cases hc : B (E.getD k ⟨0, 0, 0⟩).s ≠ ENDL ∧ v = (E.getD k ⟨0, 0, 0⟩).d ∧ B (E.getD k ⟨0, 0, 0⟩).s + wtI f (E.getD k ⟨0, 0, 0⟩).w < rlxT f E B k v
      · rw [if_pos hc]
        exact ⟨_, hm, hc.2.1.symm, hc.1, rfl⟩
      · rw [if_neg hc] at hv ⊢
        exact h3 v hv
theorem bell_bfD (f : Nat) (E : List Edg) (s : Nat) : Bell E s (wtI f) (bfD f E s) := by
  refine ⟨fun v => rfl, fun k v => (rlxT_spec f E (bfD f E s k) E.length (Nat.le_refl _)).1 v, fun k x hx hn => ?_, fun k v h => (rlxT_spec f E (bfD f E s k) E.length (Nat.le_refl _)).2.2 v h⟩
  obtain ⟨j, hj, rfl⟩ := List.getElem_of_mem hx
  have hg : E.getD j ⟨0, 0, 0⟩ = E[j] := by simp [List.getD_eq_getElem?_getD, List.getElem?_eq_getElem hj]
  have := (rlxT_spec f E (bfD f E s k) E.length (Nat.le_refl _)).2.1 j hj
  rw [hg] at this
  exact this hn
/-- Has some distance fallen, behind the first k edges? -/
def rlxB (f : Nat) (E : List Edg) (B : Nat → Int) : Nat → Bool
  | 0 => false
  | k + 1 => rlxB f E B k || decide (B (E.getD k ⟨0, 0, 0⟩).s ≠ ENDL ∧ B (E.getD k ⟨0, 0, 0⟩).s + wtI f (E.getD k ⟨0, 0, 0⟩).w < rlxT f E B k (E.getD k ⟨0, 0, 0⟩).d)
theorem rlxB_spec (f : Nat) (E : List Edg) (B : Nat → Int) {n : Nat} (hE : ∀ x ∈ E, x.s < n ∧ x.d < n) : ∀ k, k ≤ E.length → (rlxB f E B k = true ↔ ∃ v, v < n ∧ rlxT f E B k v < B v)
  | 0, _ => by
    constructor
    · intro h; cases h
    · rintro ⟨v, _, h⟩; exact absurd h (Int.lt_irrefl _)
  | k + 1, hk => by
    have ih := rlxB_spec f E B hE k (by omega)
    have hm := hE _ (getD_mem (show k < E.length by omega))
    have hs := (rlxT_spec f E B k (by omega)).1
    have hr : rlxT f E B (k + 1) = rlx f B (rlxT f E B k) (E.getD k ⟨0, 0, 0⟩) := rfl
    rw [hr, rlxB, Bool.or_eq_true, ih, decide_eq_true_eq]
    generalize E.getD k ⟨0, 0, 0⟩ = x at *
    constructor
    · rintro (⟨v, hv, h⟩ | ⟨h1, h2⟩)
      · refine ⟨v, hv, ?_⟩
        unfold rlx
        split <;> omega
      · refine ⟨x.d, hm.2, ?_⟩
        unfold rlx
        rw [if_pos ⟨h1, rfl, h2⟩]
        have := hs x.d
        omega
    · rintro ⟨v, hv, h⟩
      unfold rlx at h
      by_cases hc : B x.s ≠ ENDL ∧ v = x.d ∧ B x.s + wtI f x.w < rlxT f E B k v
      · obtain ⟨h1, rfl, h2⟩ := hc
        exact .inr ⟨h1, h2⟩
      · rw [if_neg hc] at h
        exact .inl ⟨v, hv, h⟩
theorem wtI_bnd (f w : Nat) : -2147483648 ≤ wtI f w ∧ wtI f w ≤ 2147483647 := by
  unfold wtI
  split
  · omega
  · have h : -2147483648 ≤ wrap32 (w : Int) ∧ wrap32 (w : Int) ≤ 2147483647 := by
      unfold wrap32
      omega
    have h2 : wrap64 (wrap32 (w : Int)) = wrap32 (w : Int) := by
      generalize wrap32 (w : Int) = z at *
      unfold wrap64
      omega
    rw [h2]; exact h
end Go.Proofs.Ytalpjipopipncaa
