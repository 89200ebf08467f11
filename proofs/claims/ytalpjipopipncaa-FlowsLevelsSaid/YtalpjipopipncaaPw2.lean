/- Plain: a program's rounds over edges gone along forwards, and the ways' rounds. Conditions: those of each theorem. -/
import Derived.Test.YtalpjipopipncaaPw1
import Derived.Test.YtalpjipopipncaaPl4
namespace Go.Proofs.Ytalpjipopipncaa
open Go Go.RowKit

/-- What has come to the vertices: O v y: y was offered to v; the word i0 gathers the least by κ. -/
structure CameG (i0 : Nat) (κ : Int → Int) (R : Int → Prop) (S : List St) (O : Nat → Int → Prop) (nx : List St) : Prop where
  len : nx.length = S.length
  keep : ∀ v, v < S.length → ∀ i, i ≠ i0 → nx.getD v zeroS i = S.getD v zeroS i
  is : ∀ v, v < S.length → κ (nx.getD v zeroS i0) = κ (S.getD v zeroS i0) ∨ ∃ y, O v y ∧ κ (nx.getD v zeroS i0) = κ y
  low : ∀ v, v < S.length → ∀ y, O v y → κ (nx.getD v zeroS i0) ≤ κ y
  rng : ∀ v, v < S.length → nx.getD v zeroS i0 = S.getD v zeroS i0 ∨ R (nx.getD v zeroS i0)
theorem CameG.congr {i0 : Nat} {κ : Int → Int} {R : Int → Prop} {S : List St} {O O' : Nat → Int → Prop} {nx : List St} (h : CameG i0 κ R S O nx) (ho : ∀ v y, O v y ↔ O' v y) : CameG i0 κ R S O' nx := by
  have e : O = O' := by funext v y; exact propext (ho v y)
  rwa [← e]
/-- A program's first monoid is the least by κ, in the word i0. -/
def Least (G : Prg) (i0 : Nat) (κ : Int → Int) (R : Int → Prop) : Prop := ∀ (s : St) (y : Int), ∃ z, monS G.ma s G.a y = upd s i0 z ∧ (κ z = κ (s i0) ∧ κ (s i0) ≤ κ y ∨ κ z = κ y ∧ κ y ≤ κ (s i0)) ∧ (z = s i0 ∨ R z)
section
variable {G : Prg} {i0 : Nat} {κ : Int → Int} {R : Int → Prop}
theorem CameG.step (hG : Least G i0 κ R) {S : List St} {O : Nat → Int → Prop} {nx : List St × Int} (h : CameG i0 κ R S O nx.1) {d : Nat} (hd : d < S.length) (a : Int) : CameG i0 κ R S (fun v y => O v y ∨ (v = d ∧ y = a)) (gatF G nx d a).1 := by
  have hd' : d < nx.1.length := by rw [h.len]; exact hd
  obtain ⟨z, hz, hk, hr⟩ := hG (nx.1.getD d zeroS) a
  have hg : ∀ v, (gatF G nx d a).1.getD v zeroS = if v = d then upd (nx.1.getD d zeroS) i0 z else nx.1.getD v zeroS := fun v => by
    unfold gatF
    rw [getD_setS _ _ _ _ hd', hz]
  have hlen : (gatF G nx d a).1.length = S.length := by rw [gatF_length, h.len]
  generalize (gatF G nx d a).1 = nx' at *
  refine ⟨hlen, fun v hv i hi => ?_, fun v hv => ?_, fun v hv y hy => ?_, fun v hv => ?_⟩
  · rw [hg]
    split
    · subst_vars
      simp only [upd, if_neg hi]
      exact h.keep _ hd i hi
    · exact h.keep v hv i hi
  · rw [hg]
    split
    · subst_vars
      simp only [upd, if_true]
      rcases hk with ⟨hk, _⟩ | ⟨hk, _⟩
      · rw [hk]
        rcases h.is _ hd with e | ⟨y, e1, e2⟩
        · exact .inl e
        · exact .inr ⟨y, .inl e1, e2⟩
      · exact .inr ⟨a, .inr ⟨trivial, rfl⟩, hk⟩
    · rcases h.is v hv with e | ⟨y, e1, e2⟩
      · exact .inl e
      · exact .inr ⟨y, .inl e1, e2⟩
  · rw [hg]
    rcases hy with hy | ⟨hy1, hy2⟩
    · have := h.low v hv y hy
      split
      · subst_vars
        simp only [upd, if_true]
        rcases hk with ⟨hk, _⟩ | ⟨hk, hk2⟩ <;> omega
      · exact this
    · rw [if_pos hy1, hy2]
      simp only [upd, if_true]
      rcases hk with ⟨hk, _⟩ | ⟨hk, hk2⟩ <;> omega
  · rw [hg]
    split
    · subst_vars
      simp only [upd, if_true]
      rcases hr with hr | hr
      · rw [hr]; exact h.rng _ hd
      · exact .inr hr
    · exact h.rng v hv
def OffF (G : Prg) (ctl : St) (S : List St) (E : List Edg) (k : Nat) (v : Nat) (y : Int) : Prop := ∃ i, i < k ∧ (G.scatter ctl (S.getD (E.getD i ⟨0, 0, 0⟩).s zeroS) (E.getD i ⟨0, 0, 0⟩) false).2.2.1 = true ∧ v = (E.getD i ⟨0, 0, 0⟩).d ∧ y = (G.scatter ctl (S.getD (E.getD i ⟨0, 0, 0⟩).s zeroS) (E.getD i ⟨0, 0, 0⟩) false).1
theorem scatG_came (hG : Least G i0 κ R) (hb : G.both = false) (ctl : St) (S : List St) (up : Int) (E : List Edg) (hE : ∀ x ∈ E, x.s < S.length ∧ x.d < S.length) : ∀ k, k ≤ E.length → CameG i0 κ R S (OffF G ctl S E k) (scatT G ctl S up E k).1
  | 0, _ => ⟨rfl, fun _ _ _ _ => rfl, fun _ _ => .inl rfl, fun _ _ _ h => by obtain ⟨i, hi, _⟩ := h; omega, fun _ _ => .inl rfl⟩
  | k + 1, hk => by
    have ih := scatG_came hG hb ctl S up E hE k (by omega)
    obtain ⟨hs, hd⟩ := hE _ (getD_mem (show k < E.length by omega))
    have hoff : ∀ v y, OffF G ctl S E (k + 1) v y ↔ (OffF G ctl S E k v y ∨ ((G.scatter ctl (S.getD (E.getD k ⟨0, 0, 0⟩).s zeroS) (E.getD k ⟨0, 0, 0⟩) false).2.2.1 = true ∧ v = (E.getD k ⟨0, 0, 0⟩).d ∧ y = (G.scatter ctl (S.getD (E.getD k ⟨0, 0, 0⟩).s zeroS) (E.getD k ⟨0, 0, 0⟩) false).1)) := fun v y => by
      constructor
      · rintro ⟨i, hi, h⟩
        by_cases hik : i = k
        · subst hik; exact .inr h
        · exact .inl ⟨i, by omega, h⟩
      · rintro (⟨i, hi, h⟩ | h)
        · exact ⟨i, by omega, h⟩
        · exact ⟨k, by omega, h⟩
    rw [scatT]
    generalize OffF G ctl S E (k + 1) = O' at *
    generalize OffF G ctl S E k = O at *
    generalize E.getD k ⟨0, 0, 0⟩ = x at *
    generalize scatT G ctl S up E k = nx at *
    have e : ∀ nx1, bckF G ctl S x nx1 = nx1 := fun nx1 => by
      unfold bckF
      rw [if_neg (by simp [hb])]
    rw [e]
    unfold fwdF
    by_cases ha : (G.scatter ctl (S.getD x.s zeroS) x false).2.2.1 = true
    · rw [if_pos ha]
      exact (ih.step hG hd _).congr fun v y => by rw [hoff]; exact ⟨fun h => h.imp id fun h => ⟨ha, h⟩, fun h => h.imp id fun h => h.2⟩
    · rw [if_neg ha]
      exact ih.congr fun v y => by rw [hoff]; exact ⟨.inl, fun h => h.elim id fun h => absurd h.1 ha⟩
theorem offF_mem (ctl : St) (S : List St) (E : List Edg) (v : Nat) (y : Int) : OffF G ctl S E E.length v y ↔ ∃ x ∈ E, (G.scatter ctl (S.getD x.s zeroS) x false).2.2.1 = true ∧ v = x.d ∧ y = (G.scatter ctl (S.getD x.s zeroS) x false).1 := by
  constructor
  · rintro ⟨i, hi, h⟩
    exact ⟨_, getD_mem hi, h⟩
  · rintro ⟨x, hx, h⟩
    obtain ⟨i, hi, rfl⟩ := List.getElem_of_mem hx
    have hg : E.getD i ⟨0, 0, 0⟩ = E[i] := by simp [List.getD_eq_getElem?_getD, List.getElem?_eq_getElem hi]
    exact ⟨i, hi, by rw [hg]; exact h⟩
end

/-! ### The ways. -/
theorem u64_eq (z : Int) : IntKind.u64.wrap z = z % 18446744073709551616 := by simp [IntKind.wrap, IntKind.bits, IntKind.signed]
theorem w64_u64 {z : Int} (h0 : -9223372036854775808 ≤ z) (h1 : z ≤ 9223372036854775807) : wrap64 (IntKind.u64.wrap z) = z := by
  rw [u64_eq]; unfold wrap64; omega
theorem u64_w64 {y : Int} (h0 : 0 ≤ y) (h1 : y < 18446744073709551616) : IntKind.u64.wrap (wrap64 y) = y := by
  rw [u64_eq]; unfold wrap64; omega
theorem w64_bnd (y : Int) : -9223372036854775808 ≤ wrap64 y ∧ wrap64 y ≤ 9223372036854775807 := by
  unfold wrap64; omega
theorem u64_bnd (y : Int) : 0 ≤ IntKind.u64.wrap y ∧ IntKind.u64.wrap y < 18446744073709551616 := by
  rw [u64_eq]; omega
theorem w64_id {z : Int} (h0 : -9223372036854775808 ≤ z) (h1 : z ≤ 9223372036854775807) : wrap64 z = z := by
  unfold wrap64; omega
theorem w64_endl : wrap64 ENDL = ENDL := w64_id (by unfold ENDL; omega) (by unfold ENDL; omega)
theorem u64_endl {z : Int} (h0 : -9223372036854775808 ≤ z) (h1 : z ≤ 9223372036854775807) : IntKind.u64.wrap z = ENDL ↔ z = ENDL := by
  constructor
  · intro h
    have h2 := w64_u64 h0 h1
    rw [h] at h2
    rw [← h2]
    exact w64_endl
  · rintro rfl; rfl
theorem addI_small {a b : Int} (ha : -1000000000000000 ≤ a ∧ a ≤ 1000000000000000) (hb : -2147483648 ≤ b ∧ b ≤ 2147483647) : addI a b = (a + b, 0) := by
  unfold addI
  rw [w64_id (by omega) (by omega), if_neg (by omega)]
theorem least_ways (n src f : Nat) : Least (waysP n src f) 3 wrap64 (fun z => 0 ≤ z ∧ z < 18446744073709551616) := fun s y => by
  refine ⟨IntKind.u64.wrap (min (wrap64 (s 3)) (wrap64 y)), rfl, ?_, .inr (u64_bnd _)⟩
  have h1 := w64_bnd (s 3)
  have h2 := w64_bnd y
  rw [w64_u64 (by omega) (by omega)]
  omega

def WaysAt (L : Nat → Nat → Int) (n k : Nat) (S : List St) : Prop := ∀ v, v < n → S.getD v zeroS 0 = IntKind.u64.wrap (L k v) ∧ S.getD v zeroS 1 = 0 ∧ S.getD v zeroS 2 = rdD L k v ∧ S.getD v zeroS 3 = ENDL
section
variable {E : List Edg} {n s f : Nat}
theorem bf_bnd (f : Nat) (E : List Edg) (s k v : Nat) (hk : k ≤ 1000) : bfD f E s k v = ENDL ∨ (-1000000000000000 ≤ bfD f E s k v ∧ bfD f E s k v ≤ 1000000000000000) := by
  rcases (bell_bfD f E s).bnd (wtI_bnd f) k v with h | h
  · exact .inl h
  · exact .inr (by omega)
theorem bf_i64 (f : Nat) (E : List Edg) (s k v : Nat) (hk : k ≤ 1000) : -9223372036854775808 ≤ bfD f E s k v ∧ bfD f E s k v ≤ 9223372036854775807 := by
  rcases bf_bnd f E s k v hk with h | h
  · rw [h]; unfold ENDL; omega
  · omega
theorem ways_sc (k : Nat) (hk : k ≤ 1000) (c z : St) (x : Edg) (u : Nat) (hc0 : c 0 = k) (hc1 : c 1 = 0) (h0 : z 0 = IntKind.u64.wrap (bfD f E s k u)) (h2 : z 2 = rdD (bfD f E s) k u) :
    (waysP n s f).scatter c z x false = if bfD f E s k u = ENDL ∨ rdD (bfD f E s) k u ≠ k then (0, 0, false, 0) else (IntKind.u64.wrap (bfD f E s k u + wtI f x.w), 0, true, 0) := by
  have hb := bf_i64 f E s k u hk
  have e1 := u64_endl hb.1 hb.2
  by_cases hc : bfD f E s k u = ENDL ∨ rdD (bfD f E s) k u ≠ k
  · have hc2 : (false = true ∨ c 1 ≠ 0 ∨ z 0 = ENDL ∨ z 2 ≠ c 0) := by
      rw [h0, h2, hc0, e1]
      exact .inr (.inr hc)
    rw [if_pos hc]
    exact if_pos hc2
  · have hc2 : ¬ (false = true ∨ c 1 ≠ 0 ∨ z 0 = ENDL ∨ z 2 ≠ c 0) := by
      rw [h0, h2, hc0, e1]
      rintro (h | h | h)
      · cases h
      · exact h hc1
      · exact hc h
    have hb2 : -1000000000000000 ≤ bfD f E s k u ∧ bfD f E s k u ≤ 1000000000000000 := by
      rcases bf_bnd f E s k u hk with h | h
      · exact absurd (.inl h) hc
      · exact h
    have ha : addI (wrap64 (z 0)) (wtI f x.w) = (bfD f E s k u + wtI f x.w, 0) := by
      rw [h0, w64_u64 hb.1 hb.2]
      exact addI_small hb2 (wtI_bnd f x.w)
    rw [if_neg hc]
    refine (if_neg hc2).trans ?_
    rw [ha]
    exact if_neg (fun h => h rfl)
theorem ways_round (hE : ∀ x ∈ E, x.s < n ∧ x.d < n) (hn : n ≤ 400) (r : RunP) (hl : r.S.length = n) (k : Nat) (hk : k < 1000) (h : WaysAt (bfD f E s) n k r.S) (hc0 : r.ctl 0 = k) (hc1 : r.ctl 1 = 0) :
    NoErr (waysP n s f) E r ∧ WaysAt (bfD f E s) n (k + 1) (roundF (waysP n s f) E r).1.S ∧ (roundF (waysP n s f) E r).1.ctl 0 = ((k + 1 : Nat) : Int) ∧ ((roundF (waysP n s f) E r).2 = true ↔ restD (bfD f E s) n k) ∧
      (¬ restD (bfD f E s) n k → n ≤ k + 1 → (roundF (waysP n s f) E r).1.ctl 1 = 1) ∧ ((restD (bfD f E s) n k ∨ k + 1 < n) → (roundF (waysP n s f) E r).1.ctl 1 = 0) := by
  subst hl
  have hbl := bell_bfD f E s
  have hsc : ∀ x ∈ E, (waysP r.S.length s f).scatter r.ctl (r.S.getD x.s zeroS) x false = if bfD f E s k x.s = ENDL ∨ rdD (bfD f E s) k x.s ≠ k then (0, 0, false, 0) else (IntKind.u64.wrap (bfD f E s k x.s + wtI f x.w), 0, true, 0) := fun x hx => by
    have := h x.s (hE x hx).1
    exact ways_sc k (by omega) _ _ x x.s hc0 hc1 this.1 this.2.2.1
  have hne : NoErr (waysP r.S.length s f) E r := fun x hx => by
    refine ⟨?_, fun hb => by cases hb⟩
    rw [hsc x hx]
    split <;> rfl
  have hc := scatG_came (least_ways r.S.length s f) rfl r.ctl r.S r.up E hE E.length (Nat.le_refl _)
  have hof : ∀ v y, OffF (waysP r.S.length s f) r.ctl r.S E E.length v y ↔ ∃ x ∈ E, x.d = v ∧ rdD (bfD f E s) k x.s = k ∧ bfD f E s k x.s ≠ ENDL ∧ y = IntKind.u64.wrap (bfD f E s k x.s + wtI f x.w) := fun v y => by
    rw [offF_mem]
    constructor
    · rintro ⟨x, hx, h1, h2, h3⟩
      rw [hsc x hx] at h1 h3
      by_cases hcc : bfD f E s k x.s = ENDL ∨ rdD (bfD f E s) k x.s ≠ k
      · rw [if_pos hcc] at h1; cases h1
      · rw [if_neg hcc] at h3
        exact ⟨x, hx, h2.symm, Classical.byContradiction fun hh => hcc (.inr hh), fun hh => hcc (.inl hh), h3⟩
    · rintro ⟨x, hx, h1, h2, h3, h4⟩
      have hcc : ¬ (bfD f E s k x.s = ENDL ∨ rdD (bfD f E s) k x.s ≠ k) := by
        rintro (hh | hh)
        · exact h3 hh
        · exact hh h2
      refine ⟨x, hx, ?_, h1.symm, ?_⟩ <;> rw [hsc x hx, if_neg hcc]
      exact h4
  have hc := hc.congr hof
  have hz := chT_zero (waysP r.S.length s f) r.ctl r.agg (scatT (waysP r.S.length s f) r.ctl r.S r.up E E.length).1 r.S.length hn
  have hg := apT_get (waysP r.S.length s f) r.ctl r.agg (scatT (waysP r.S.length s f) r.ctl r.S r.up E E.length).1 r.S r.S.length (Nat.le_refl _)
  refine ⟨hne, ?_⟩
  simp only [roundF]
  generalize scatT (waysP r.S.length s f) r.ctl r.S r.up E E.length = nx at *
  -- what came, as a signed number
  have hm : ∀ v, v < r.S.length → 0 ≤ nx.1.getD v zeroS 3 ∧ nx.1.getD v zeroS 3 < 18446744073709551616 ∧ bfD f E s (k + 1) v = if wrap64 (nx.1.getD v zeroS 3) < bfD f E s k v then wrap64 (nx.1.getD v zeroS 3) else bfD f E s k v := fun v hv => by
    have h3 := (h v hv).2.2.2
    have hr : 0 ≤ nx.1.getD v zeroS 3 ∧ nx.1.getD v zeroS 3 < 18446744073709551616 := by
      rcases hc.rng v hv with hh | hh
      · rw [hh, h3]; unfold ENDL; omega
      · exact hh
    refine ⟨hr.1, hr.2, hbl.next k v _ ?_ ?_⟩
    · rcases hc.is v hv with hh | ⟨y, ⟨x, hx, h1, h2, h4, h5⟩, hh⟩
      · rw [hh, h3]; exact .inl w64_endl
      · refine .inr ⟨x, hx, h1, h2, h4, ?_⟩
        have hw := wtI_bnd f x.w
        rcases bf_bnd f E s k x.s (by omega) with hb | hb
        · exact absurd hb h4
        · rw [hh, h5, w64_u64 (by omega) (by omega)]
    · intro x hx h1 h2 h4
      have hw := wtI_bnd f x.w
      have := hc.low v hv _ ⟨x, hx, h1, h2, h4, rfl⟩
      rcases bf_bnd f E s k x.s (by omega) with hb | hb
      · exact absurd hb h4
      · rwa [w64_u64 (by omega) (by omega)] at this
  have hap : ∀ v, v < r.S.length → appV (waysP r.S.length s f) r.ctl r.agg nx.1 v = if bfD f E s (k + 1) v < bfD f E s k v then (upd (upd (upd (nx.1.getD v zeroS) 0 (nx.1.getD v zeroS 3)) 2 (((k + 1 : Nat) : Int))) 3 ENDL, true) else (upd (nx.1.getD v zeroS) 3 ENDL, false) := fun v hv => by
    have hk0 := hc.keep v hv 0 (by omega)
    have hb := bf_i64 f E s k v (by omega)
    have e0 : wrap64 (nx.1.getD v zeroS 0) = bfD f E s k v := by rw [hk0, (h v hv).1, w64_u64 hb.1 hb.2]
    have hu : u64p (r.ctl 0) = ((k + 1 : Nat) : Int) := by rw [hc0, u64p_small (by omega) (by omega)]; simp
    have h5 := (hm v hv).2.2
    have e : appV (waysP r.S.length s f) r.ctl r.agg nx.1 v = if r.ctl 1 = 0 then (if wrap64 (nx.1.getD v zeroS 0) ≤ wrap64 (nx.1.getD v zeroS 3) then (upd (nx.1.getD v zeroS) 3 ENDL, false) else (upd (upd (upd (nx.1.getD v zeroS) 0 (nx.1.getD v zeroS 3)) 2 (u64p (r.ctl 0))) 3 ENDL, true)) else (upd (upd (nx.1.getD v zeroS) 1 1) 3 ENDL, true) := rfl
    rw [e, if_pos hc1, e0, hu]
    by_cases hlt : wrap64 (nx.1.getD v zeroS 3) < bfD f E s k v
    · rw [if_pos hlt] at h5
      rw [if_neg (by omega), if_pos (by omega)]
    · rw [if_neg hlt] at h5
      rw [if_pos (by omega), if_neg (by omega)]
  have hS : WaysAt (bfD f E s) r.S.length (k + 1) (apT (waysP r.S.length s f) r.ctl r.agg nx.1 r.S r.S.length) := fun v hv => by
    have h1 := h v hv
    have hk0 := hc.keep v hv 0 (by omega)
    have hk1 := hc.keep v hv 1 (by omega)
    have hk2 := hc.keep v hv 2 (by omega)
    obtain ⟨hm0, hm1, hm2⟩ := hm v hv
    rw [hg v hv, hap v hv]
    have hw4 : (waysP r.S.length s f).words = 4 := rfl
    by_cases hlt : bfD f E s (k + 1) v < bfD f E s k v
    · have hlt2 : wrap64 (nx.1.getD v zeroS 3) < bfD f E s k v := by
        by_cases hh : wrap64 (nx.1.getD v zeroS 3) < bfD f E s k v
        · exact hh
        · rw [if_neg hh] at hm2; omega
      rw [if_pos hlt2] at hm2
      rw [if_pos hlt, hw4]
      refine ⟨?_, ?_, ?_, ?_⟩
      · show nx.1.getD v zeroS 3 = _
        rw [hm2, u64_w64 hm0 hm1]
      · show nx.1.getD v zeroS 1 = 0
        rw [hk1]; exact h1.2.1
      · show ((k + 1 : Nat) : Int) = _
        rw [rdD, if_pos hlt]; simp
      · rfl
    · have e : bfD f E s (k + 1) v = bfD f E s k v := by have := hbl.le k v; omega
      rw [if_neg hlt, hw4]
      refine ⟨?_, ?_, ?_, ?_⟩
      · show nx.1.getD v zeroS 0 = _
        rw [hk0, e]; exact h1.1
      · show nx.1.getD v zeroS 1 = 0
        rw [hk1]; exact h1.2.1
      · show nx.1.getD v zeroS 2 = _
        rw [rdD, if_neg hlt, hk2]; exact h1.2.2.1
      · rfl
  have hu : u64p (r.ctl 0) = ((k + 1 : Nat) : Int) := by rw [hc0, u64p_small (by omega) (by omega)]; simp
  have hch : chT (waysP r.S.length s f) r.ctl r.agg nx.1 r.S.length = 0 ↔ restD (bfD f E s) r.S.length k := by
    rw [hz.2.2]
    refine forall_congr' fun v => ⟨fun hh hv hlt => ?_, fun hh hv => ?_⟩
    · have h2 := hh hv
      rw [hap v hv, if_pos hlt] at h2
      cases h2
    · rw [hap v hv, if_neg (hh hv)]
  generalize chT (waysP r.S.length s f) r.ctl r.agg nx.1 r.S.length = ch at *
  refine ⟨hS, ?_, ?_, ?_, ?_⟩
  · show (if ¬ (ch = 0 ∨ r.ctl 1 ≠ 0) ∧ ((r.S.length : Nat) : Int) ≤ u64p (r.ctl 0) then upd (upd r.ctl 0 (u64p (r.ctl 0))) 1 1 else upd r.ctl 0 (u64p (r.ctl 0))) 0 = _
    rw [hu]
    split <;> rfl
  · show decide (ch = 0 ∨ r.ctl 1 ≠ 0) = true ↔ _
    rw [decide_eq_true_eq, ← hch]
    exact ⟨fun hh => hh.elim id fun h1 => absurd hc1 h1, .inl⟩
  · intro hr hnk
    show (if ¬ (ch = 0 ∨ r.ctl 1 ≠ 0) ∧ ((r.S.length : Nat) : Int) ≤ u64p (r.ctl 0) then upd (upd r.ctl 0 (u64p (r.ctl 0))) 1 1 else upd r.ctl 0 (u64p (r.ctl 0))) 1 = _
    rw [hu, if_pos ⟨fun hh => hr (hch.1 (hh.elim id fun h1 => absurd hc1 h1)), by omega⟩]
    rfl
  · intro hr
    show (if ¬ (ch = 0 ∨ r.ctl 1 ≠ 0) ∧ ((r.S.length : Nat) : Int) ≤ u64p (r.ctl 0) then upd (upd r.ctl 0 (u64p (r.ctl 0))) 1 1 else upd r.ctl 0 (u64p (r.ctl 0))) 1 = _
    rw [hu, if_neg (by
      rintro ⟨h1, h2⟩
      rcases hr with hr | hr
      · exact h1 (.inl (hch.2 hr))
      · omega)]
    exact hc1
end
end Go.Proofs.Ytalpjipopipncaa
