/- Plain: the labels' play ends in time at the roots of the forest. Conditions: those of each theorem. -/
import Derived.Test.YtalpjipopipncaaPl3
namespace Go.Proofs.Ytalpjipopipncaa
open Go Go.RowKit

theorem getD_setS (S : List St) (i j : Nat) (x : St) (hi : i < S.length) : (S.set i x).getD j zeroS = if j = i then x else S.getD j zeroS := by
  simp only [List.getD_eq_getElem?_getD, List.getElem?_set]
  split
  · subst_vars; simp
  · rw [if_neg (by omega)]
theorem u64p_small {x : Int} (h0 : 0 ≤ x) (h1 : x < 1000000) : u64p x = x + 1 := by
  simp only [u64p, IntKind.wrap, IntKind.bits, IntKind.signed]
  simp
  omega

/-- What has come to the vertices: O v y: y was offered to v. -/
structure Came (S : List St) (O : Nat → Int → Prop) (nx : List St) : Prop where
  len : nx.length = S.length
  keep : ∀ v, v < S.length → ∀ i, i ≠ 1 → nx.getD v zeroS i = S.getD v zeroS i
  is : ∀ v, v < S.length → nx.getD v zeroS 1 = S.getD v zeroS 1 ∨ O v (nx.getD v zeroS 1)
  le : ∀ v, v < S.length → nx.getD v zeroS 1 ≤ S.getD v zeroS 1
  low : ∀ v, v < S.length → ∀ y, O v y → nx.getD v zeroS 1 ≤ y
theorem Came.congr {S : List St} {O O' : Nat → Int → Prop} {nx : List St} (h : Came S O nx) (ho : ∀ v y, O v y ↔ O' v y) : Came S O' nx := by
  have e : O = O' := by funext v y; exact propext (ho v y)
  rwa [← e]
theorem Came.step {S : List St} {O : Nat → Int → Prop} {nx : List St × Int} (h : Came S O nx.1) {d : Nat} (hd : d < S.length) (a : Int) : Came S (fun v y => O v y ∨ (v = d ∧ y = a)) (gatF labelsP nx d a).1 := by
  have hd' : d < nx.1.length := by rw [h.len]; exact hd
  have hg : ∀ v, (gatF labelsP nx d a).1.getD v zeroS = if v = d then upd (nx.1.getD d zeroS) 1 (min (nx.1.getD d zeroS 1) a) else nx.1.getD v zeroS := fun v => by
    unfold gatF
    rw [getD_setS _ _ _ _ hd']
    rfl
  have hlen : (gatF labelsP nx d a).1.length = S.length := by rw [gatF_length, h.len]
  generalize (gatF labelsP nx d a).1 = nx' at *
  refine ⟨hlen, fun v hv i hi => ?_, fun v hv => ?_, fun v hv => ?_, fun v hv y hy => ?_⟩
  · rw [hg]
    split
    · subst_vars
      simp only [upd, if_neg hi]
      exact h.keep _ hd i hi
    · exact h.keep v hv i hi
  · rw [hg]
    split
    · subst_vars
      simp only [upd, if_true]
      rcases h.is _ hd with e | e
      · rw [e]
        by_cases hm : S.getD v zeroS 1 ≤ a
        · exact .inl (by omega)
        · exact .inr (.inr ⟨trivial, by omega⟩)
      · by_cases hm : nx.1.getD v zeroS 1 ≤ a
        · exact .inr (.inl (by rwa [show min (nx.1.getD v zeroS 1) a = nx.1.getD v zeroS 1 by omega]))
        · exact .inr (.inr ⟨trivial, by omega⟩)
    · rcases h.is v hv with e | e
      · exact .inl e
      · exact .inr (.inl e)
  · rw [hg]
    have := h.le v hv
    split
    · subst_vars
      simp only [upd, if_true]
      omega
    · exact this
  · rw [hg]
    rcases hy with hy | ⟨hy1, hy2⟩
    · have := h.low v hv y hy
      split
      · subst_vars
        simp only [upd, if_true]
        omega
      · exact this
    · rw [if_pos hy1]
      simp only [upd, if_true]
      omega

def Off (S : List St) (E : List Edg) (k : Nat) (v : Nat) (y : Int) : Prop := ∃ i, i < k ∧
  ((S.getD (E.getD i ⟨0, 0, 0⟩).s zeroS 2 = 1 ∧ v = (E.getD i ⟨0, 0, 0⟩).d ∧ y = S.getD (E.getD i ⟨0, 0, 0⟩).s zeroS 0) ∨
   (S.getD (E.getD i ⟨0, 0, 0⟩).d zeroS 2 = 1 ∧ v = (E.getD i ⟨0, 0, 0⟩).s ∧ y = S.getD (E.getD i ⟨0, 0, 0⟩).d zeroS 0))
theorem scat_came (ctl : St) (S : List St) (up : Int) (E : List Edg) (hE : ∀ x ∈ E, x.s < S.length ∧ x.d < S.length) : ∀ k, k ≤ E.length → Came S (Off S E k) (scatT labelsP ctl S up E k).1
  | 0, _ => ⟨rfl, fun _ _ _ _ => rfl, fun _ _ => .inl rfl, fun _ _ => Int.le_refl _, fun _ _ _ h => by obtain ⟨i, hi, _⟩ := h; omega⟩
  | k + 1, hk => by
    have ih := scat_came ctl S up E hE k (by omega)
    obtain ⟨hs, hd⟩ := hE _ (getD_mem (show k < E.length by omega))
    have hoff : ∀ v y, Off S E (k + 1) v y ↔ ((Off S E k v y ∨ (S.getD (E.getD k ⟨0, 0, 0⟩).s zeroS 2 = 1 ∧ v = (E.getD k ⟨0, 0, 0⟩).d ∧ y = S.getD (E.getD k ⟨0, 0, 0⟩).s zeroS 0)) ∨ (S.getD (E.getD k ⟨0, 0, 0⟩).d zeroS 2 = 1 ∧ v = (E.getD k ⟨0, 0, 0⟩).s ∧ y = S.getD (E.getD k ⟨0, 0, 0⟩).d zeroS 0)) := fun v y => by
      constructor
      · rintro ⟨i, hi, h⟩
        by_cases hik : i = k
        · subst hik
          rcases h with h | h
          · exact .inl (.inr h)
          · exact .inr h
        · exact .inl (.inl ⟨i, by omega, h⟩)
      · rintro ((⟨i, hi, h⟩ | h) | h)
        · exact ⟨i, by omega, h⟩
        · exact ⟨k, by omega, .inl h⟩
        · exact ⟨k, by omega, .inr h⟩
    rw [scatT]
    generalize Off S E (k + 1) = O' at *
    generalize Off S E k = O at *
    generalize E.getD k ⟨0, 0, 0⟩ = x at *
    generalize scatT labelsP ctl S up E k = nx at *
    have h1 : Came S (fun v y => O v y ∨ (S.getD x.s zeroS 2 = 1 ∧ v = x.d ∧ y = S.getD x.s zeroS 0)) (fwdF labelsP ctl S x nx).1 := by
      unfold fwdF
      by_cases ha : S.getD x.s zeroS 2 = 1
      · have ht : (labelsP.scatter ctl (S.getD x.s zeroS) x false).2.2.1 = true := beq_iff_eq.2 ha
        rw [if_pos ht]
        exact (ih.step hd _).congr fun v y => ⟨fun h => h.imp id fun h => ⟨ha, h⟩, fun h => h.imp id fun h => h.2⟩
      · have ht : ¬ (labelsP.scatter ctl (S.getD x.s zeroS) x false).2.2.1 = true := fun h => ha (beq_iff_eq.1 h)
        rw [if_neg ht]
        exact ih.congr fun v y => ⟨.inl, fun h => h.elim id fun h => absurd h.1 ha⟩
    generalize fwdF labelsP ctl S x nx = nx1 at *
    have h2 : Came S (fun v y => (O v y ∨ (S.getD x.s zeroS 2 = 1 ∧ v = x.d ∧ y = S.getD x.s zeroS 0)) ∨ (S.getD x.d zeroS 2 = 1 ∧ v = x.s ∧ y = S.getD x.d zeroS 0)) (bckF labelsP ctl S x nx1).1 := by
      unfold bckF
      have hb : labelsP.both = true := rfl
      rw [if_pos hb]
      by_cases ha : S.getD x.d zeroS 2 = 1
      · have ht : (labelsP.scatter ctl (S.getD x.d zeroS) x true).2.2.1 = true := beq_iff_eq.2 ha
        rw [if_pos ht]
        exact (h1.step hs _).congr fun v y => ⟨fun h => h.imp id fun h => ⟨ha, h⟩, fun h => h.imp id fun h => h.2⟩
      · have ht : ¬ (labelsP.scatter ctl (S.getD x.d zeroS) x true).2.2.1 = true := fun h => ha (beq_iff_eq.1 h)
        rw [if_neg ht]
        exact h1.congr fun v y => ⟨.inl, fun h => h.elim id fun h => absurd h.1 ha⟩
    exact h2.congr fun v y => (hoff v y).symm
theorem off_link (S : List St) (E : List Edg) (v : Nat) (y : Int) : Off S E E.length v y ↔ ∃ u, Link E u v ∧ S.getD u zeroS 2 = 1 ∧ y = S.getD u zeroS 0 := by
  constructor
  · rintro ⟨i, hi, h⟩
    have hm := getD_mem hi
    rcases h with ⟨h1, rfl, h3⟩ | ⟨h1, rfl, h3⟩
    · exact ⟨_, ⟨_, hm, .inl ⟨rfl, rfl⟩⟩, h1, h3⟩
    · exact ⟨_, ⟨_, hm, .inr ⟨rfl, rfl⟩⟩, h1, h3⟩
  · rintro ⟨u, ⟨x, hx, h⟩, h1, h2⟩
    obtain ⟨i, hi, rfl⟩ := List.getElem_of_mem hx
    have hg : E.getD i ⟨0, 0, 0⟩ = E[i] := by simp [List.getD_eq_getElem?_getD, List.getElem?_eq_getElem hi]
    refine ⟨i, hi, ?_⟩
    rw [hg]
    rcases h with ⟨rfl, rfl⟩ | ⟨rfl, rfl⟩
    · exact .inl ⟨h1, rfl, h2⟩
    · exact .inr ⟨h1, rfl, h2⟩
theorem apT_get (G : Prg) (ctl agg : St) (NX S : List St) : ∀ k, k ≤ S.length → ∀ v, v < k → (apT G ctl agg NX S k).getD v zeroS = cutS (appV G ctl agg NX v).1 G.words
  | 0, _, v, hv => by omega
  | k + 1, hk, v, hv => by
    rw [apT, getD_setS _ _ _ _ (by rw [apT_length]; omega)]
    split
    · subst_vars; rfl
    · exact apT_get G ctl agg NX S k (by omega) v (by omega)
theorem chT_zero (G : Prg) (ctl agg : St) (NX : List St) : ∀ k, k ≤ 400 → 0 ≤ chT G ctl agg NX k ∧ chT G ctl agg NX k ≤ k ∧ (chT G ctl agg NX k = 0 ↔ ∀ v, v < k → (appV G ctl agg NX v).2 = false)
  | 0, _ => ⟨Int.le_refl _, Int.le_refl _, ⟨fun _ v hv => by omega, fun _ => rfl⟩⟩
  | k + 1, hk => by
    obtain ⟨h0, h1, h2⟩ := chT_zero G ctl agg NX k (by omega)
    rw [chT]
    by_cases ha : (appV G ctl agg NX k).2 = true
    · rw [if_pos ha, u64p_small h0 (by omega)]
      refine ⟨by omega, by omega, ⟨fun h => by omega, fun h => ?_⟩⟩
      have := h k (by omega)
      rw [ha] at this
      cases this
    · rw [if_neg ha]
      refine ⟨h0, by omega, ⟨fun h v hv => ?_, fun h => h2.2 fun v hv => h v (by omega)⟩⟩
      by_cases hvk : v = k
      · subst hvk; simpa using ha
      · exact h2.1 h v (by omega)

/-- One round of the labels. -/
theorem labels_round {E : List Edg} {n : Nat} (hE : ∀ x ∈ E, x.s < n ∧ x.d < n) (r : RunP) (hl : r.S.length = n) (hn : n ≤ 400) (hu : ∀ v, v < n → r.S.getD v zeroS 1 = U64) :
    (∀ v, v < n → ∃ c, (c = U64 ∨ ∃ u, u < n ∧ Link E u v ∧ r.S.getD u zeroS 2 = 1 ∧ c = r.S.getD u zeroS 0) ∧ (∀ u, u < n → Link E u v → r.S.getD u zeroS 2 = 1 → c ≤ r.S.getD u zeroS 0) ∧
      (roundF labelsP E r).1.S.getD v zeroS 0 = (if c < r.S.getD v zeroS 0 then c else r.S.getD v zeroS 0) ∧ (roundF labelsP E r).1.S.getD v zeroS 1 = U64 ∧ (roundF labelsP E r).1.S.getD v zeroS 2 = (if c < r.S.getD v zeroS 0 then 1 else 0)) ∧
    ((roundF labelsP E r).2 = true ↔ ∀ v, v < n → ¬ (roundF labelsP E r).1.S.getD v zeroS 2 = 1) := by
  subst hl
  have hc := scat_came r.ctl r.S r.up E hE E.length (Nat.le_refl _)
  simp only [roundF]
  have hz := chT_zero labelsP r.ctl r.agg (scatT labelsP r.ctl r.S r.up E E.length).1 r.S.length hn
  have hg := apT_get labelsP r.ctl r.agg (scatT labelsP r.ctl r.S r.up E E.length).1 r.S r.S.length (Nat.le_refl _)
  generalize scatT labelsP r.ctl r.S r.up E E.length = nx at *
  have h2 : ∀ v, v < r.S.length → (apT labelsP r.ctl r.agg nx.1 r.S r.S.length).getD v zeroS 2 = (if nx.1.getD v zeroS 1 < r.S.getD v zeroS 0 then 1 else 0) := fun v hv => by
    have hk := hc.keep v hv 0 (by omega)
    rw [hg v hv]
    simp [cutS, appV, labelsP]
    simp only [← List.getD_eq_getElem?_getD, hk]
  refine ⟨fun v hv => ⟨nx.1.getD v zeroS 1, ?_, ?_, ?_, ?_, h2 v hv⟩, ?_⟩
  · rcases hc.is v hv with h | h
    · exact .inl (h.trans (hu v hv))
    · obtain ⟨u, h1, h2, h3⟩ := (off_link r.S E v _).1 h
      obtain ⟨x, hx, hh⟩ := h1
      have := hE x hx
      exact .inr ⟨u, by rcases hh with ⟨rfl, rfl⟩ | ⟨rfl, rfl⟩ <;> omega, ⟨x, hx, hh⟩, h2, h3⟩
  · intro u _ h1 h2
    exact hc.low v hv _ ((off_link r.S E v _).2 ⟨u, h1, h2, rfl⟩)
  · have hk := hc.keep v hv 0 (by omega)
    rw [hg v hv]
    simp [cutS, appV, labelsP]
    simp only [← List.getD_eq_getElem?_getD, hk]
  · rw [hg v hv]
    simp [cutS, appV, labelsP]
  · have e : (labelsP.turn r.ctl (foldT labelsP r.ctl (apT labelsP r.ctl r.agg nx.1 r.S r.S.length) r.S.length) (chT labelsP r.ctl r.agg nx.1 r.S.length) (r.rounds + 1)).2 = true ↔ chT labelsP r.ctl r.agg nx.1 r.S.length = 0 := beq_iff_eq
    rw [e, hz.2.2]
    have hiff : ∀ v, v < r.S.length → ((appV labelsP r.ctl r.agg nx.1 v).2 = false ↔ ¬ (apT labelsP r.ctl r.agg nx.1 r.S r.S.length).getD v zeroS 2 = 1) := fun v hv => by
      have hk := hc.keep v hv 0 (by omega)
      rw [h2 v hv, ← hk]
      have e2 : (appV labelsP r.ctl r.agg nx.1 v).2 = decide (nx.1.getD v zeroS 1 < nx.1.getD v zeroS 0) := rfl
      rw [e2]
      by_cases hlt : nx.1.getD v zeroS 1 < nx.1.getD v zeroS 0
      · rw [if_pos hlt, decide_eq_true hlt]; simp
      · rw [if_neg hlt, decide_eq_false hlt]; simp
    exact ⟨fun h v hv => (hiff v hv).1 (h v hv), fun h v hv => (hiff v hv).2 (h v hv)⟩

theorem startT_get (G : Prg) (n v : Nat) (hv : v < n) : (startT G n).getD v zeroS = cutS (G.start v) G.words := by
  simp [startT, List.getD_eq_getElem?_getD, List.getElem?_map, List.getElem?_range hv]
section
variable {E : List Edg} {n : Nat}
theorem labels_u64 (hE : ∀ x ∈ E, x.s < n ∧ x.d < n) (hn : n ≤ 400) : ∀ k v, v < n → (iterR labelsP E (startR labelsP n) k).S.getD v zeroS 1 = U64
  | 0, v, hv => by
    show (startT labelsP n).getD v zeroS 1 = U64
    rw [startT_get _ _ _ hv]
    simp [cutS, labelsP]
  | k + 1, v, hv => by
    obtain ⟨c, _, _, _, h, _⟩ := (labels_round hE (iterR labelsP E (startR labelsP n) k) (iterR_length labelsP E n k) hn (labels_u64 hE hn k)).1 v hv
    exact h
theorem labels_zero (v : Nat) (hv : v < n) : (iterR labelsP E (startR labelsP n) 0).S.getD v zeroS 0 = v ∧ (iterR labelsP E (startR labelsP n) 0).S.getD v zeroS 2 = 1 := by
  show (startT labelsP n).getD v zeroS 0 = v ∧ (startT labelsP n).getD v zeroS 2 = 1
  rw [startT_get _ _ _ hv]
  simp [cutS, labelsP]
theorem labels_less (hE : ∀ x ∈ E, x.s < n ∧ x.d < n) (hn : n ≤ 400) (k v : Nat) (hv : v < n) : (iterR labelsP E (startR labelsP n) (k + 1)).S.getD v zeroS 0 ≤ (iterR labelsP E (startR labelsP n) k).S.getD v zeroS 0 := by
  obtain ⟨c, _, _, h, _, _⟩ := (labels_round hE (iterR labelsP E (startR labelsP n) k) (iterR_length labelsP E n k) hn (labels_u64 hE hn k)).1 v hv
  show (roundF labelsP E (iterR labelsP E (startR labelsP n) k)).1.S.getD v zeroS 0 ≤ _
  rw [h]
  split <;> omega
theorem labels_small (hE : ∀ x ∈ E, x.s < n ∧ x.d < n) (hn : n ≤ 400) : ∀ k v, v < n → (iterR labelsP E (startR labelsP n) k).S.getD v zeroS 0 ≤ v
  | 0, v, hv => by rw [(labels_zero v hv).1]; exact Int.le_refl _
  | k + 1, v, hv => Int.le_trans (labels_less hE hn k v hv) (labels_small hE hn k v hv)
theorem labels_spreads (hE : ∀ x ∈ E, x.s < n ∧ x.d < n) (hn : n ≤ 400) : Spreads E n (fun k v => (iterR labelsP E (startR labelsP n) k).S.getD v zeroS 0) (fun k v => (iterR labelsP E (startR labelsP n) k).S.getD v zeroS 2 = 1) := by
  have hr := fun k => (labels_round hE (iterR labelsP E (startR labelsP n) k) (iterR_length labelsP E n k) hn (labels_u64 hE hn k)).1
  have hs := labels_small hE hn
  refine ⟨fun v hv => labels_zero v hv, fun k v hv => labels_less hE hn k v hv, fun k u v hu hv hl ha => ?_, fun k v hv => ?_, fun k v hv hlt => ?_⟩
  · obtain ⟨c, _, h2, h, _, _⟩ := hr k v hv
    have h3 := h2 u hu hl ha
    show (roundF labelsP E (iterR labelsP E (startR labelsP n) k)).1.S.getD v zeroS 0 ≤ _
    rw [h]
    split <;> omega
  · obtain ⟨c, _, _, h, _, h2⟩ := hr k v hv
    show (roundF labelsP E (iterR labelsP E (startR labelsP n) k)).1.S.getD v zeroS 2 = 1 ↔ (roundF labelsP E (iterR labelsP E (startR labelsP n) k)).1.S.getD v zeroS 0 < _
    rw [h, h2]
    by_cases hc2 : c < (iterR labelsP E (startR labelsP n) k).S.getD v zeroS 0
    · rw [if_pos hc2, if_pos hc2]; exact ⟨fun _ => hc2, fun _ => rfl⟩
    · rw [if_neg hc2, if_neg hc2]; exact ⟨fun h => absurd h (by decide), fun h => absurd h (Int.lt_irrefl _)⟩
  · obtain ⟨c, hc, _, h, _, _⟩ := hr k v hv
    change (roundF labelsP E (iterR labelsP E (startR labelsP n) k)).1.S.getD v zeroS 0 < _ at hlt
    have hsv := hs k v hv
    rw [h] at hlt
    have hcl : c < (iterR labelsP E (startR labelsP n) k).S.getD v zeroS 0 := by
      by_cases hc2 : c < (iterR labelsP E (startR labelsP n) k).S.getD v zeroS 0
      · exact hc2
      · rw [if_neg hc2] at hlt; omega
    rw [if_pos hcl] at h
    rcases hc with hc | ⟨u, hu, hl, ha, hc⟩
    · unfold U64 at hc; omega
    · refine ⟨u, hu, hl, ha, ?_⟩
      show _ = (roundF labelsP E (iterR labelsP E (startR labelsP n) k)).1.S.getD v zeroS 0
      rw [h, hc]
theorem fold_roots (ctl : St) (S : List St) (A : List Nat) (n : Nat) (h : ∀ v, v < n → S.getD v zeroS 0 = (A.getD v 0 : Nat)) : ∀ k, k ≤ n → foldT labelsP ctl S k 0 = rootsT A k
  | 0, _ => rfl
  | k + 1, hk => by
    have ih := fold_roots ctl S A n h k (by omega)
    have hv := h k (by omega)
    have e : foldT labelsP ctl S (k + 1) = if S.getD k zeroS 0 == (k : Int) then upd (foldT labelsP ctl S k) 0 (u64p (foldT labelsP ctl S k 0)) else foldT labelsP ctl S k := rfl
    rw [e, rootsT]
    by_cases ha : A.getD k 0 = k
    · rw [if_pos ha, if_pos (by rw [hv, ha]; simp)]
      simp only [upd, if_true, ih]
    · rw [if_neg ha, if_neg (fun hh => ha (by have := beq_iff_eq.1 hh; rw [hv] at this; omega))]
      exact ih
theorem labels_ctl (E : List Edg) (n : Nat) : ∀ k, (iterR labelsP E (startR labelsP n) k).ctl 1 = 0
  | 0 => rfl
  | k + 1 => labels_ctl E n k
theorem joins_ok (hE : ∀ x ∈ E, x.s < n ∧ x.d < n) (hn1 : 1 ≤ n) (hn : n ≤ 400) : ∃ K, JoinsOK E n K := by
  have hsp := labels_spreads hE hn
  obtain ⟨K, hK, hno, hyes⟩ := hsp.ends hn1
  have hrt := hsp.roots hE K hno
  have hr := fun k => (labels_round hE (iterR labelsP E (startR labelsP n) k) (iterR_length labelsP E n k) hn (labels_u64 hE hn k)).2
  refine ⟨K, ⟨by omega, fun k _ x _ => ⟨rfl, fun _ => rfl⟩, fun k _ => by rw [labels_ctl]; exact Int.le_refl _, fun k hk => ?_, (hr K).2 hno⟩, ?_, ?_⟩
  · obtain ⟨v, hv, ha⟩ := hyes k hk
    have := mt (hr k).1 (fun h => h v hv ha)
    simpa using this
  · have hl := iterR_length labelsP E n (K + 1)
    refine List.ext_getElem (by simpa using hl) (fun i h1 h2 => ?_)
    have hi : i < n := by simpa using h2
    have hv := hrt i hi
    have hi' : i < (iterR labelsP E (startR labelsP n) (K + 1)).S.length := by omega
    rw [List.getD_eq_getElem?_getD, List.getElem?_eq_getElem hi'] at hv
    simp only [List.getElem_map, List.getElem_range]
    exact hv
  · have h1 : (iterR labelsP E (startR labelsP n) (K + 1)).agg = foldT labelsP (iterR labelsP E (startR labelsP n) K).ctl (iterR labelsP E (startR labelsP n) (K + 1)).S n := by
      show (roundF labelsP E (iterR labelsP E (startR labelsP n) K)).1.agg = foldT labelsP _ (roundF labelsP E (iterR labelsP E (startR labelsP n) K)).1.S n
      simp only [roundF, iterR_length]
    rw [h1]
    refine fold_roots _ _ _ n (fun v hv => ?_) n (Nat.le_refl _)
    have h := hrt v hv
    rw [h]
    simp [List.getD_eq_getElem?_getD, List.getElem?_map, List.getElem?_range hv]
end
end Go.Proofs.Ytalpjipopipncaa
