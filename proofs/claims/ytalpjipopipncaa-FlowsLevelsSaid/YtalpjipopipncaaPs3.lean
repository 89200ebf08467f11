/- Plain: what the spread's play comes to, and its aggregate. Conditions: those of each theorem. -/
import Derived.Test.YtalpjipopipncaaPs2
namespace Go.Proofs.Ytalpjipopipncaa
open Go Go.RowKit

/-- How many of the first k are reached; the greatest level among them. -/
def rchU (S : List St) : Nat → Int
  | 0 => 0
  | k + 1 => if S.getD k zeroS 0 = U64 then rchU S k else u64p (rchU S k)
def maxU (S : List St) : Nat → Int
  | 0 => 0
  | k + 1 => if S.getD k zeroS 0 = U64 then maxU S k else max (maxU S k) (S.getD k zeroS 0)

/-- What the spread's play must come to. -/
structure SpreadOK (E : List Edg) (n : Nat) (srcs : List Nat) (rch : Bool) (K : Nat) : Prop where
  plays : Plays (spreadP srcs rch) E n n K
  agg0 : (iterR (spreadP srcs rch) E (startR (spreadP srcs rch) n) (K + 1)).agg 0 = rchU (iterR (spreadP srcs rch) E (startR (spreadP srcs rch) n) (K + 1)).S n
  agg1 : (iterR (spreadP srcs rch) E (startR (spreadP srcs rch) n) (K + 1)).agg 1 = maxU (iterR (spreadP srcs rch) E (startR (spreadP srcs rch) n) (K + 1)).S n
  fin : SpFin E n srcs rch (lvS (iterR (spreadP srcs rch) E (startR (spreadP srcs rch) n) (K + 1)).S) (paS (iterR (spreadP srcs rch) E (startR (spreadP srcs rch) n) (K + 1)).S)

theorem first_true (p : Nat → Bool) : ∀ n, (∃ K, K < n ∧ p K = true ∧ ∀ j, j < K → p j = false) ∨ ∀ j, j < n → p j = false
  | 0 => .inr fun j h => by omega
  | n + 1 => by
    rcases first_true p n with ⟨K, h1, h2, h3⟩ | h
    · exact .inl ⟨K, by omega, h2, h3⟩
    · cases hp : p n with
      | true => exact .inl ⟨n, by omega, hp, h⟩
      | false =>
        refine .inr fun j hj => ?_
        by_cases e : j = n
        · rw [e]; exact hp
        · exact h j (by omega)
section
variable {E : List Edg} {n : Nat} {srcs : List Nat} {rch : Bool}
theorem mem_int {srcs : List Nat} {v : Nat} : (v : Int) ∈ srcs.map (fun x : Nat => (x : Int)) ↔ v ∈ srcs := by
  constructor
  · intro h
    obtain ⟨x, hx, e⟩ := List.mem_map.1 h
    obtain rfl : x = v := Int.ofNat_inj.1 e
    exact hx
  · exact fun h => List.mem_map.2 ⟨v, h, rfl⟩
theorem spread_start_at (n : Nat) (srcs : List Nat) (rch : Bool) (E : List Edg) (hE : ∀ x ∈ E, x.s < n ∧ x.d < n) : SpS E n srcs rch 0 (iterR (spreadP srcs rch) E (startR (spreadP srcs rch) n) 0).S := by
  have hU := u64_big
  have hg : ∀ v, v < n → lvS (iterR (spreadP srcs rch) E (startR (spreadP srcs rch) n) 0).S v = (if v ∈ srcs then 0 else U64) ∧ paS (iterR (spreadP srcs rch) E (startR (spreadP srcs rch) n) 0).S v = (if v ∈ srcs then (v : Int) else U64) ∧ (iterR (spreadP srcs rch) E (startR (spreadP srcs rch) n) 0).S.getD v zeroS 2 = U64 := fun v hv => by
    have e : (iterR (spreadP srcs rch) E (startR (spreadP srcs rch) n) 0).S.getD v zeroS = cutS ((spreadP srcs rch).start v) 3 := startT_get (spreadP srcs rch) n v hv
    unfold lvS paS
    rw [e]
    refine ⟨?_, ?_, rfl⟩
    · show (if (v : Int) ∈ srcs.map (fun x : Nat => (x : Int)) then (0 : Int) else U64) = _
      simp only [mem_int]
    · show (if (v : Int) ∈ srcs.map (fun x : Nat => (x : Int)) then (v : Int) else U64) = _
      simp only [mem_int]
  generalize (iterR (spreadP srcs rch) E (startR (spreadP srcs rch) n) 0).S = S at *
  have hl : ∀ v, v < n → lvS S v ≠ U64 → v ∈ srcs ∧ lvS S v = 0 ∧ paS S v = v := fun v hv h => by
    obtain ⟨h1, h2, _⟩ := hg v hv
    by_cases hm : v ∈ srcs
    · rw [if_pos hm] at h1 h2; exact ⟨hm, h1, h2⟩
    · rw [if_neg hm] at h1; exact absurd h1 h
  have hlv : ∀ v, v < n → lvS S v = U64 ∨ lvS S v = 0 := fun v hv => by
    by_cases h : lvS S v = U64
    · exact .inl h
    · exact .inr (hl v hv h).2.1
  refine ⟨⟨fun v hv => ?_, fun v hv hs => ?_, fun v hv h0 => ?_, fun v hv h0 => ?_, fun v hv h0 => ?_, fun v hv h0 hs => ?_, fun x hx h0 h1 => ?_, fun x hx h0 => ?_⟩, fun v hv => (hg v hv).2.2⟩
  · rcases hlv v hv with h | h
    · exact .inl h
    · exact .inr (by omega)
  · obtain ⟨h1, h2, _⟩ := hg v hv
    rw [if_pos hs] at h1 h2
    exact ⟨h1, h2⟩
  · exact (hl v hv (by omega)).1
  · obtain ⟨h1, h2, _⟩ := hg v hv
    by_cases hm : v ∈ srcs
    · rw [if_pos hm] at h1; omega
    · rw [if_neg hm] at h2; exact h2
  · have := (hl v hv h0).2.2; omega
  · exact absurd (hl v hv h0).1 hs
  · have h2 := (hl _ (hE x hx).1 h0).2.1
    have h3 := hlv _ (hE x hx).2
    omega
  · have h3 := hlv _ (hE x hx).1
    omega
/-- How many are reached. -/
def cntS (S : List St) (n : Nat) : Nat := (List.range n).countP (fun v => decide (lvS S v ≠ U64))
theorem spread_inv (hE : ∀ x ∈ E, x.s < n ∧ x.d < n) (hn : n ≤ 400) (hs : ∃ s ∈ srcs, s < n) : ∀ k, k ≤ n → (∀ j, j < k → (roundF (spreadP srcs rch) E (iterR (spreadP srcs rch) E (startR (spreadP srcs rch) n) j)).2 = false) →
    SpS E n srcs rch k (iterR (spreadP srcs rch) E (startR (spreadP srcs rch) n) k).S ∧ (iterR (spreadP srcs rch) E (startR (spreadP srcs rch) n) k).ctl 0 = k ∧ (iterR (spreadP srcs rch) E (startR (spreadP srcs rch) n) k).ctl 1 = 0 ∧ k + 1 ≤ cntS (iterR (spreadP srcs rch) E (startR (spreadP srcs rch) n) k).S n
  | 0, _, _ => by
    have h := spread_start_at n srcs rch E hE
    refine ⟨h, rfl, rfl, ?_⟩
    obtain ⟨s, h1, h2⟩ := hs
    have h3 := (h.1.src s h2 h1).1
    have hU := u64_big
    exact List.countP_pos_iff.2 ⟨s, List.mem_range.2 h2, by rw [h3]; simp; omega⟩
  | k + 1, hk, hr => by
    obtain ⟨h1, h2, h3, h4⟩ := spread_inv hE hn hs k (by omega) (fun j hj => hr j (by omega))
    obtain ⟨_, r2, r3, r4, r5, _, r7⟩ := spread_round hE hn _ (iterR_length (spreadP srcs rch) E n k) k (by omega) h1 h2
    refine ⟨r2, r3, by rw [← h3]; exact r4, ?_⟩
    obtain ⟨v, hv, h5, h6⟩ := r7 (hr k (by omega))
    have h7 := countP_lt' (p := fun v => decide (lvS (iterR (spreadP srcs rch) E (startR (spreadP srcs rch) n) k).S v ≠ U64)) (q := fun v => decide (lvS (iterR (spreadP srcs rch) E (startR (spreadP srcs rch) n) (k + 1)).S v ≠ U64)) (List.range n) (fun w hw hp => decide_eq_true (r5 w (List.mem_range.1 hw) (of_decide_eq_true hp))) v (List.mem_range.2 hv) (by simpa using h5) (decide_eq_true h6)
    unfold cntS at *
    omega
theorem fold_spread0 (srcs : List Nat) (rch : Bool) (ctl : St) (S : List St) : ∀ k, foldT (spreadP srcs rch) ctl S k 0 = rchU S k ∧ foldT (spreadP srcs rch) ctl S k 1 = maxU S k
  | 0 => ⟨rfl, rfl⟩
  | k + 1 => by
    obtain ⟨h1, h2⟩ := fold_spread0 srcs rch ctl S k
    have e : foldT (spreadP srcs rch) ctl S (k + 1) = if S.getD k zeroS 0 = U64 then foldT (spreadP srcs rch) ctl S k else upd (upd (foldT (spreadP srcs rch) ctl S k) 0 (u64p (foldT (spreadP srcs rch) ctl S k 0))) 1 (max (foldT (spreadP srcs rch) ctl S k 1) (S.getD k zeroS 0)) := rfl
    rw [e, rchU, maxU]
    split
    · exact ⟨h1, h2⟩
    · refine ⟨?_, ?_⟩
      · simp only [upd]; rw [if_neg (by omega), if_pos trivial, h1]
      · simp only [upd]; rw [if_pos trivial, h2]
theorem spread_ok (hE : ∀ x ∈ E, x.s < n ∧ x.d < n) (hn : n ≤ 400) (hs : ∃ s ∈ srcs, s < n) : ∃ K, SpreadOK E n srcs rch K := by
  have hinv := spread_inv (rch := rch) hE hn hs
  rcases first_true (fun k => (roundF (spreadP srcs rch) E (iterR (spreadP srcs rch) E (startR (spreadP srcs rch) n) k)).2) n with ⟨K, hK, hd, hno⟩ | hno
  · have hat := fun k (hk : k ≤ K) => hinv k (by omega) (fun j hj => hno j (by omega))
    have hround := fun k (hk : k ≤ K) => spread_round hE hn _ (iterR_length (spreadP srcs rch) E n k) k (by omega) (hat k hk).1 (hat k hk).2.1
    have hl := hround K (Nat.le_refl _)
    have hag : (iterR (spreadP srcs rch) E (startR (spreadP srcs rch) n) (K + 1)).agg = foldT (spreadP srcs rch) (iterR (spreadP srcs rch) E (startR (spreadP srcs rch) n) K).ctl (iterR (spreadP srcs rch) E (startR (spreadP srcs rch) n) (K + 1)).S n := by
      show (roundF (spreadP srcs rch) E (iterR (spreadP srcs rch) E (startR (spreadP srcs rch) n) K)).1.agg = foldT (spreadP srcs rch) _ (roundF (spreadP srcs rch) E (iterR (spreadP srcs rch) E (startR (spreadP srcs rch) n) K)).1.S n
      simp only [roundF, iterR_length]
    refine ⟨K, ⟨⟨by omega, fun k hk => (hround k hk).1, fun k hk => by rw [(hat k hk).2.2.1]; exact Int.le_refl _, hno, hd⟩, ?_, ?_, ?_⟩⟩
    · rw [hag]; exact (fold_spread0 srcs rch _ _ n).1
    · rw [hag]; exact (fold_spread0 srcs rch _ _ n).2
    · exact (hat K (Nat.le_refl _)).1.1.fin hE hK hl.2.1.1 (hl.2.2.2.2.2.1 hd)
  · have h1 := (hinv n (Nat.le_refl _) hno).2.2.2
    have h2 := List.countP_le_length (p := fun v => decide (lvS (iterR (spreadP srcs rch) E (startR (spreadP srcs rch) n) n).S v ≠ U64)) (l := List.range n)
    unfold cntS at h1
    rw [List.length_range] at h2
    omega
end
end Go.Proofs.Ytalpjipopipncaa
