/- Plain: what the ways' play comes to. Conditions: those of each theorem. -/
import Derived.Test.YtalpjipopipncaaRfs
namespace Go.Proofs.Ytalpjipopipncaa
open Go Go.RowKit

/-- How many of the first k are reached. -/
def rchT (S : List St) : Nat → Int
  | 0 => 0
  | k + 1 => if S.getD k zeroS 0 = ENDL then rchT S k else u64p (rchT S k)

/-- What the ways' play must come to. -/
structure WaysOK (E : List Edg) (n s f K KK : Nat) (neg : Bool) : Prop where
  plays : Plays (waysP n s f) E n (n + 1) K
  agg0 : (iterR (waysP n s f) E (startR (waysP n s f) n) (K + 1)).agg 0 = rchT (iterR (waysP n s f) E (startR (waysP n s f) n) (K + 1)).S n
  agg1 : (iterR (waysP n s f) E (startR (waysP n s f) n) (K + 1)).agg 1 = if neg then 1 else 0
  w1 : ∀ v, v < n → (iterR (waysP n s f) E (startR (waysP n s f) n) (K + 1)).S.getD v zeroS 1 = if neg then 1 else 0
  kk : KK < n
  on : ∀ k, k ≤ KK → chB f E s k = true
  off : chB f E s (KK + 1) = false ∨ KK + 1 = n
  neg' : chB f E s (KK + 1) = neg
  last : neg = true → KK + 1 = n
  rest : neg = false → restD (bfD f E s) n KK
  w0 : neg = false → ∀ v, v < n → (iterR (waysP n s f) E (startR (waysP n s f) n) (K + 1)).S.getD v zeroS 0 = IntKind.u64.wrap (bfD f E s KK v)
  w2 : neg = false → ∀ v, v < n → (iterR (waysP n s f) E (startR (waysP n s f) n) (K + 1)).S.getD v zeroS 2 = rdD (bfD f E s) KK v

section
variable {E : List Edg} {n s f : Nat}
theorem ways_start_at (n s f : Nat) : WaysAt (bfD f E s) n 0 (iterR (waysP n s f) E (startR (waysP n s f) n) 0).S := fun v hv => by
  have e : (iterR (waysP n s f) E (startR (waysP n s f) n) 0).S.getD v zeroS = cutS ((waysP n s f).start v) 4 := startT_get (waysP n s f) n v hv
  rw [e]
  refine ⟨?_, rfl, rfl, rfl⟩
  show (if (v : Int) = (s : Int) then (0 : Int) else ENDL) = IntKind.u64.wrap (if v = s then 0 else ENDL)
  by_cases h : v = s
  · rw [if_pos (by omega), if_pos h]; rfl
  · rw [if_neg (by omega), if_neg h]; exact ((u64_endl (by unfold ENDL; omega) (by unfold ENDL; omega)).2 rfl).symm
theorem ways_inv (hE : ∀ x ∈ E, x.s < n ∧ x.d < n) (hn1 : 1 ≤ n) (hn : n ≤ 400) : ∀ k, k ≤ n → (∀ j, j < k → ¬ restD (bfD f E s) n j) →
    WaysAt (bfD f E s) n k (iterR (waysP n s f) E (startR (waysP n s f) n) k).S ∧ (iterR (waysP n s f) E (startR (waysP n s f) n) k).ctl 0 = k ∧ (k < n → (iterR (waysP n s f) E (startR (waysP n s f) n) k).ctl 1 = 0) ∧ (k = n → (iterR (waysP n s f) E (startR (waysP n s f) n) k).ctl 1 = 1)
  | 0, _, _ => ⟨ways_start_at n s f, rfl, fun _ => rfl, fun h => by omega⟩
  | k + 1, hk, hr => by
    obtain ⟨h1, h2, h3, _⟩ := ways_inv hE hn1 hn k (by omega) (fun j hj => hr j (by omega))
    obtain ⟨_, r2, r3, _, r5, r6⟩ := ways_round hE hn _ (iterR_length (waysP n s f) E n k) k (by omega) h1 h2 (h3 (by omega))
    exact ⟨r2, r3, fun hlt => r6 (.inr hlt), fun heq => r5 (hr k (by omega)) (by omega)⟩
theorem fold_ways0 (n s f : Nat) (ctl : St) (S : List St) : ∀ k, foldT (waysP n s f) ctl S k 0 = rchT S k
  | 0 => rfl
  | k + 1 => by
    have ih := fold_ways0 n s f ctl S k
    have e : foldT (waysP n s f) ctl S (k + 1) = (let g1 := if S.getD k zeroS 0 = ENDL then foldT (waysP n s f) ctl S k else upd (foldT (waysP n s f) ctl S k) 0 (u64p (foldT (waysP n s f) ctl S k 0)); if S.getD k zeroS 1 = 1 then upd g1 1 1 else g1) := rfl
    rw [e, rchT]
    by_cases h : S.getD k zeroS 0 = ENDL
    · simp only [if_pos h]
      split
      · simp only [upd]; rw [if_neg (by omega)]; exact ih
      · exact ih
    · simp only [if_neg h]
      split
      · simp only [upd]; rw [if_neg (by omega), if_pos trivial, ih]
      · simp only [upd]; rw [if_pos trivial, ih]
theorem fold_ways1 (n s f : Nat) (ctl : St) (S : List St) (b : Int) (hb : b = 0 ∨ b = 1) : ∀ k, (∀ v, v < k → S.getD v zeroS 1 = b) → foldT (waysP n s f) ctl S k 1 = if k = 0 then 0 else b
  | 0, _ => rfl
  | k + 1, h => by
    have ih := fold_ways1 n s f ctl S b hb k (fun v hv => h v (by omega))
    have hk := h k (by omega)
    have e : foldT (waysP n s f) ctl S (k + 1) = (let g1 := if S.getD k zeroS 0 = ENDL then foldT (waysP n s f) ctl S k else upd (foldT (waysP n s f) ctl S k) 0 (u64p (foldT (waysP n s f) ctl S k 0)); if S.getD k zeroS 1 = 1 then upd g1 1 1 else g1) := rfl
    have h1 : (if S.getD k zeroS 0 = ENDL then foldT (waysP n s f) ctl S k else upd (foldT (waysP n s f) ctl S k) 0 (u64p (foldT (waysP n s f) ctl S k 0))) 1 = foldT (waysP n s f) ctl S k 1 := by
      split
      · rfl
      · simp only [upd]; rw [if_neg (by omega)]
    have hk0 : (if k + 1 = 0 then (0 : Int) else b) = b := if_neg (by omega)
    rw [e, hk0]
    rcases hb with rfl | rfl
    · dsimp only
      rw [if_neg (by rw [hk]; omega), h1, ih]
      split <;> rfl
    · dsimp only
      rw [if_pos hk]
      rfl
theorem ways_agg (n s f : Nat) (K : Nat) : (iterR (waysP n s f) E (startR (waysP n s f) n) (K + 1)).agg = foldT (waysP n s f) (iterR (waysP n s f) E (startR (waysP n s f) n) K).ctl (iterR (waysP n s f) E (startR (waysP n s f) n) (K + 1)).S n := by
  show (roundF (waysP n s f) E (iterR (waysP n s f) E (startR (waysP n s f) n) K)).1.agg = foldT (waysP n s f) _ (roundF (waysP n s f) E (iterR (waysP n s f) E (startR (waysP n s f) n) K)).1.S n
  simp only [roundF, iterR_length]
/-- The round in which the verdict is told. -/
theorem ways_tells (hE : ∀ x ∈ E, x.s < n ∧ x.d < n) (hn : n ≤ 400) (r : RunP) (hl : r.S.length = n) (hc1 : r.ctl 1 = 1) :
    NoErr (waysP n s f) E r ∧ (∀ v, v < n → (roundF (waysP n s f) E r).1.S.getD v zeroS 1 = 1) ∧ (roundF (waysP n s f) E r).2 = true := by
  subst hl
  have hsc : ∀ x, (waysP r.S.length s f).scatter r.ctl (r.S.getD x.s zeroS) x false = (0, 0, false, 0) := fun x => if_pos (.inr (.inl (by rw [hc1]; decide)))
  refine ⟨fun x _ => ⟨by rw [hsc], fun hb => by cases hb⟩, fun v hv => ?_, ?_⟩
  · simp only [roundF]
    rw [apT_get _ _ _ _ _ _ (Nat.le_refl _) v hv]
    have e : appV (waysP r.S.length s f) r.ctl r.agg (scatT (waysP r.S.length s f) r.ctl r.S r.up E E.length).1 v = (upd (upd ((scatT (waysP r.S.length s f) r.ctl r.S r.up E E.length).1.getD v zeroS) 1 1) 3 ENDL, true) := if_neg (by rw [hc1]; decide)
    rw [e]
    rfl
  · simp only [roundF]
    show decide (_ = 0 ∨ r.ctl 1 ≠ 0) = true
    rw [decide_eq_true_eq, hc1]
    exact .inr (by decide)
theorem chB_rest (hE : ∀ x ∈ E, x.s < n ∧ x.d < n) (k : Nat) : chB f E s (k + 1) = true ↔ ¬ restD (bfD f E s) n k := by
  rw [chB, rlxB_spec f E (bfD f E s k) hE E.length (Nat.le_refl _)]
  constructor
  · rintro ⟨v, hv, h⟩ hr
    exact hr v hv h
  · intro h
    exact Classical.byContradiction fun hc => h fun v hv hlt => hc ⟨v, hv, hlt⟩
theorem chB_on (hE : ∀ x ∈ E, x.s < n ∧ x.d < n) {K : Nat} (h : ∀ j, j < K → ¬ restD (bfD f E s) n j) : ∀ k, k ≤ K → chB f E s k = true
  | 0, _ => rfl
  | k + 1, hk => (chB_rest hE k).2 (h k (by omega))
theorem ways_ok (hE : ∀ x ∈ E, x.s < n ∧ x.d < n) (hn1 : 1 ≤ n) (hn : n ≤ 400) : ∃ K KK neg, WaysOK E n s f K KK neg := by
  have hinv := ways_inv (s := s) (f := f) hE hn1 hn
  have hbl := bell_bfD f E s
  rcases rest_ends (bfD f E s) n with ⟨K, hK, hr, hno⟩ | hno
  · have hat := fun k (hk : k ≤ K) => hinv k (by omega) (fun j hj => hno j (by omega))
    have hround := fun k (hk : k ≤ K) => ways_round hE hn _ (iterR_length (waysP n s f) E n k) k (by omega) (hat k hk).1 (hat k hk).2.1 ((hat k hk).2.2.1 (by omega))
    have hfin : WaysAt (bfD f E s) n (K + 1) (iterR (waysP n s f) E (startR (waysP n s f) n) (K + 1)).S := (hround K (Nat.le_refl _)).2.1
    have he : ∀ v, v < n → bfD f E s (K + 1) v = bfD f E s K v := fun v hv => by
      have h1 := hbl.le K v
      have h2 := hr v hv
      omega
    refine ⟨K, K, false, ⟨⟨by omega, fun k hk => (hround k hk).1, fun k hk => by rw [(hat k hk).2.2.1 (by omega)]; exact Int.le_refl _, fun k hk => ?_, (hround K (Nat.le_refl _)).2.2.2.1.2 hr⟩, ?_, ?_, fun v hv => (hfin v hv).2.1, hK, chB_on hE hno, .inl ?_, ?_, fun h => (by cases h), fun _ => hr, fun _ v hv => ?_, fun _ v hv => ?_⟩⟩
    · have h := mt (hround k (by omega)).2.2.2.1.1 (hno k hk)
      simpa using h
    · rw [ways_agg, fold_ways0]
    · rw [ways_agg, fold_ways1 n s f _ _ 0 (.inl rfl) n (fun v hv => (hfin v hv).2.1)]
      simp
    · have h := mt (chB_rest hE K).1 (fun h => h hr)
      simpa using h
    · have h := mt (chB_rest hE K).1 (fun h => h hr)
      simpa using h
    · rw [(hfin v hv).1, he v hv]
    · rw [(hfin v hv).2.2.1, rdD, if_neg (hr v hv)]
  · have hat := fun k (hk : k ≤ n) => hinv k hk (fun j hj => hno j (by omega))
    have hround := fun k (hk : k < n) => ways_round hE hn _ (iterR_length (waysP n s f) E n k) k (by omega) (hat k (by omega)).1 (hat k (by omega)).2.1 ((hat k (by omega)).2.2.1 hk)
    have htell := ways_tells (s := s) (f := f) hE hn _ (iterR_length (waysP n s f) E n n) ((hat n (Nat.le_refl _)).2.2.2 rfl)
    have hw1 : ∀ v, v < n → (iterR (waysP n s f) E (startR (waysP n s f) n) (n + 1)).S.getD v zeroS 1 = 1 := htell.2.1
    refine ⟨n, n - 1, true, ⟨⟨by omega, fun k hk => ?_, fun k hk => ?_, fun k hk => ?_, htell.2.2⟩, ?_, ?_, hw1, by omega, chB_on hE (fun j hj => hno j (by omega)), .inr (by omega), (chB_rest hE (n - 1)).2 (hno (n - 1) (by omega)), fun _ => by omega, fun h => (by cases h), fun h => (by cases h), fun h => (by cases h)⟩⟩
    · by_cases hkn : k = n
      · subst hkn; exact htell.1
      · exact (hround k (by omega)).1
    · by_cases hkn : k = n
      · rw [(hat k hk).2.2.2 hkn]; decide
      · rw [(hat k hk).2.2.1 (by omega)]; exact Int.le_refl _
    · have h := mt (hround k (by omega)).2.2.2.1.1 (hno k (by omega))
      simpa using h
    · rw [ways_agg, fold_ways0]
    · rw [ways_agg, fold_ways1 n s f _ _ 1 (.inr rfl) n hw1, if_neg (by omega)]
      rfl

/-- The reasons of a play without a verdict. -/
structure Reasons (S : List St) (E : List Edg) (n s f : Nat) : Prop where
  none : ∀ v, v < n → v = s ∨ S.getD v zeroS 0 = ENDL → S.getD v zeroS 2 = 0
  held : ∀ v, v < n → v ≠ s → S.getD v zeroS 0 ≠ ENDL → ∃ x ∈ E, x.d = v ∧ S.getD x.s zeroS 0 ≠ ENDL ∧ wrap64 (wrap64 (S.getD x.s zeroS 0) + wtI f x.w) = wrap64 (S.getD x.d zeroS 0) ∧ S.getD x.s zeroS 2 < S.getD x.d zeroS 2
theorem ways_reasons (hE : ∀ x ∈ E, x.s < n ∧ x.d < n) (hn : n ≤ 400) (hs : s < n) {K KK : Nat} (h : WaysOK E n s f K KK false) : Reasons (iterR (waysP n s f) E (startR (waysP n s f) n) (K + 1)).S E n s f := by
  have hbl := bell_bfD f E s
  have hw := wtI_bnd f
  have hr := h.rest rfl
  have hkk := h.kk
  have h0 := h.w0 rfl
  have h2 := h.w2 rfl
  generalize (iterR (waysP n s f) E (startR (waysP n s f) n) (K + 1)).S = S at *
  have hen : ∀ v, v < n → (S.getD v zeroS 0 = ENDL ↔ bfD f E s KK v = ENDL) := fun v hv => by
    have hb := bf_i64 f E s KK v (by omega)
    rw [h0 v hv, u64_endl hb.1 hb.2]
  refine ⟨fun v hv hh => ?_, fun v hv hvs hne => ?_⟩
  · rw [h2 v hv]
    refine hbl.rd0 KK v ?_
    rcases hh with rfl | hh
    · rw [hbl.src0 hw hE hr (by omega), hbl.zero, if_pos rfl]
    · rw [hen v hv] at hh
      have h3 := hbl.anti' (Nat.zero_le KK) v
      have h4 := hbl.top 0 v
      omega
  · obtain ⟨x, hx, hd, hn2, he, hlt⟩ := hbl.held hE hr hw (by omega) v hvs (fun hh => hne ((hen v hv).2 hh))
    obtain ⟨hxs, hxd⟩ := hE x hx
    have b1 := bf_i64 f E s KK x.s (by omega)
    have b2 := bf_i64 f E s KK x.d (by omega)
    subst hd
    refine ⟨x, hx, rfl, fun hh => hn2 ((hen _ hxs).1 hh), ?_, ?_⟩
    · rw [h0 _ hxs, h0 _ hxd, w64_u64 b1.1 b1.2, w64_u64 b2.1 b2.2, he, w64_id b2.1 b2.2]
    · rw [h2 _ hxs, h2 _ hxd]; exact hlt
end
end Go.Proofs.Ytalpjipopipncaa
