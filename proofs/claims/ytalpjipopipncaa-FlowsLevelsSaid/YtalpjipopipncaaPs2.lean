/- Plain: the spread's rounds, and that they end in time. Conditions: those of each theorem. -/
import Derived.Test.YtalpjipopipncaaPs1
namespace Go.Proofs.Ytalpjipopipncaa
open Go Go.RowKit

def lvS (S : List St) (v : Nat) : Int := S.getD v zeroS 0
def paS (S : List St) (v : Nat) : Int := S.getD v zeroS 1
/-- A list of states stands for the spread ahead of round k. -/
def SpS (E : List Edg) (n : Nat) (srcs : List Nat) (rch : Bool) (k : Nat) (S : List St) : Prop := SpAt E n srcs rch k (lvS S) (paS S) ∧ ∀ v, v < n → S.getD v zeroS 2 = U64

theorem least_spread (srcs : List Nat) (rch : Bool) : Least (spreadP srcs rch) 2 id (fun _ => True) := fun s y => by
  refine ⟨min (s 2) y, rfl, ?_, .inr trivial⟩
  simp only [id]
  omega
section
variable {E : List Edg} {n : Nat} {srcs : List Nat} {rch : Bool}
theorem spread_round (hE : ∀ x ∈ E, x.s < n ∧ x.d < n) (hn : n ≤ 400) (r : RunP) (hl : r.S.length = n) (k : Nat) (hk : k < 1000) (h : SpS E n srcs rch k r.S) (hc0 : r.ctl 0 = k) :
    NoErr (spreadP srcs rch) E r ∧ SpS E n srcs rch (k + 1) (roundF (spreadP srcs rch) E r).1.S ∧ (roundF (spreadP srcs rch) E r).1.ctl 0 = ((k + 1 : Nat) : Int) ∧ (roundF (spreadP srcs rch) E r).1.ctl 1 = r.ctl 1 ∧
      (∀ v, v < n → lvS r.S v ≠ U64 → lvS (roundF (spreadP srcs rch) E r).1.S v ≠ U64) ∧ ((roundF (spreadP srcs rch) E r).2 = true → ∀ v, v < n → lvS (roundF (spreadP srcs rch) E r).1.S v = lvS r.S v) ∧
      ((roundF (spreadP srcs rch) E r).2 = false → ∃ v, v < n ∧ lvS r.S v = U64 ∧ lvS (roundF (spreadP srcs rch) E r).1.S v ≠ U64) := by
  subst hl
  obtain ⟨h, hw2⟩ := h
  have hU := u64_big
  have hkU : ((k : Nat) : Int) ≠ U64 := by omega
  have hsc : ∀ x, (spreadP srcs rch).scatter r.ctl (r.S.getD x.s zeroS) x false = (offI rch (paS r.S) x, 0, lvS r.S x.s == k, 0) := fun x => by
    show (if rch then (r.S.getD x.s zeroS) 1 else (x.s : Int), (0 : Int), (!false && (r.S.getD x.s zeroS) 0 == r.ctl 0), (0 : Int)) = _
    rw [hc0]
    rfl
  have hne : NoErr (spreadP srcs rch) E r := fun x hx => by
    refine ⟨?_, fun hb => by cases hb⟩
    rw [hsc x]
  have hc := scatG_came (least_spread srcs rch) rfl r.ctl r.S r.up E hE E.length (Nat.le_refl _)
  have hof : ∀ v y, OffF (spreadP srcs rch) r.ctl r.S E E.length v y ↔ ∃ x ∈ E, x.d = v ∧ lvS r.S x.s = k ∧ y = offI rch (paS r.S) x := fun v y => by
    rw [offF_mem]
    constructor
    · rintro ⟨x, hx, h1, h2, h3⟩
      rw [hsc x] at h1 h3
      exact ⟨x, hx, h2.symm, by simpa using h1, h3⟩
    · rintro ⟨x, hx, h1, h2, h3⟩
      refine ⟨x, hx, ?_, h1.symm, ?_⟩ <;> rw [hsc x]
      · simpa using h2
      · exact h3
  have hc := hc.congr hof
  have hz := chT_zero (spreadP srcs rch) r.ctl r.agg (scatT (spreadP srcs rch) r.ctl r.S r.up E E.length).1 r.S.length hn
  have hg := apT_get (spreadP srcs rch) r.ctl r.agg (scatT (spreadP srcs rch) r.ctl r.S r.up E E.length).1 r.S r.S.length (Nat.le_refl _)
  refine ⟨hne, ?_⟩
  simp only [roundF]
  generalize scatT (spreadP srcs rch) r.ctl r.S r.up E E.length = nx at *
  have hoffU : ∀ x ∈ E, lvS r.S x.s = k → offI rch (paS r.S) x ≠ U64 := fun x hx h1 => by
    have hxs := (hE x hx).1
    unfold offI
    split
    · have := h.re x.s hxs (by omega)
      omega
    · omega
  have hu : u64p (r.ctl 0) = ((k + 1 : Nat) : Int) := by rw [hc0, u64p_small (by omega) (by omega)]; simp
  have hap : ∀ v, v < r.S.length → (lvS r.S v = U64 ∧ appV (spreadP srcs rch) r.ctl r.agg nx.1 v = (upd (upd (upd (nx.1.getD v zeroS) 0 ((k + 1 : Nat) : Int)) 1 (nx.1.getD v zeroS 2)) 2 U64, true) ∧ (∃ x ∈ E, x.d = v ∧ lvS r.S x.s = k ∧ nx.1.getD v zeroS 2 = offI rch (paS r.S) x) ∧ (∀ x ∈ E, x.d = v → lvS r.S x.s = k → nx.1.getD v zeroS 2 ≤ offI rch (paS r.S) x)) ∨
      (appV (spreadP srcs rch) r.ctl r.agg nx.1 v = (upd (nx.1.getD v zeroS) 2 U64, false) ∧ (lvS r.S v ≠ U64 ∨ ∀ x ∈ E, x.d = v → lvS r.S x.s ≠ k)) := fun v hv => by
    have hk0 : nx.1.getD v zeroS 0 = lvS r.S v := hc.keep v hv 0 (by omega)
    have hlow := fun y hy => hc.low v hv y hy
    have his := hc.is v hv
    rw [hw2 v hv] at his
    have e : appV (spreadP srcs rch) r.ctl r.agg nx.1 v = if nx.1.getD v zeroS 0 = U64 ∧ nx.1.getD v zeroS 2 ≠ U64 then (upd (upd (upd (nx.1.getD v zeroS) 0 (u64p (r.ctl 0))) 1 (nx.1.getD v zeroS 2)) 2 U64, true) else (upd (nx.1.getD v zeroS) 2 U64, false) := rfl
    rw [e, hu, hk0]
    by_cases hL : lvS r.S v = U64
    · by_cases hm : nx.1.getD v zeroS 2 = U64
      · rw [if_neg (fun hh => hh.2 hm)]
        refine .inr ⟨rfl, .inr fun x hx hd hl => ?_⟩
        have h1 := hlow _ ⟨x, hx, hd, hl, rfl⟩
        have h2 := hoffU x hx hl
        simp only [id, hm] at h1
        have hxs := (hE x hx).1
        have h3 : offI rch (paS r.S) x < U64 := by
          unfold offI
          split
          · have := h.re x.s hxs (by omega)
            omega
          · omega
        omega
      · rw [if_pos ⟨hL, hm⟩]
        rcases his with his | ⟨y, ⟨x, hx, h1, h2, h3⟩, hy⟩
        · exact absurd his hm
        · refine .inl ⟨hL, rfl, ⟨x, hx, h1, h2, by rw [← h3]; exact hy⟩, fun x2 hx2 h4 h5 => hlow _ ⟨x2, hx2, h4, h5, rfl⟩⟩
    · rw [if_neg (fun hh => hL hh.1)]
      exact .inr ⟨rfl, .inl hL⟩
  have hw3 : (spreadP srcs rch).words = 3 := rfl
  have hgen : ∀ v, v < r.S.length → (lvS r.S v = U64 ∧ (appV (spreadP srcs rch) r.ctl r.agg nx.1 v).2 = true ∧ lvS (apT (spreadP srcs rch) r.ctl r.agg nx.1 r.S r.S.length) v = ((k + 1 : Nat) : Int) ∧ paS (apT (spreadP srcs rch) r.ctl r.agg nx.1 r.S r.S.length) v = nx.1.getD v zeroS 2 ∧ (∃ x ∈ E, x.d = v ∧ lvS r.S x.s = k ∧ nx.1.getD v zeroS 2 = offI rch (paS r.S) x) ∧ (∀ x ∈ E, x.d = v → lvS r.S x.s = k → nx.1.getD v zeroS 2 ≤ offI rch (paS r.S) x)) ∨
      ((appV (spreadP srcs rch) r.ctl r.agg nx.1 v).2 = false ∧ lvS (apT (spreadP srcs rch) r.ctl r.agg nx.1 r.S r.S.length) v = lvS r.S v ∧ paS (apT (spreadP srcs rch) r.ctl r.agg nx.1 r.S r.S.length) v = paS r.S v ∧ (lvS r.S v ≠ U64 ∨ ∀ x ∈ E, x.d = v → lvS r.S x.s ≠ k)) := fun v hv => by
    have h1 := hg v hv
    rcases hap v hv with ⟨h2, h3, h4, h5⟩ | ⟨h3, h4⟩
    · refine .inl ⟨h2, by rw [h3], ?_, ?_, h4, h5⟩
      · unfold lvS; rw [h1, h3, hw3]; rfl
      · unfold paS; rw [h1, h3, hw3]; rfl
    · refine .inr ⟨by rw [h3], ?_, ?_, h4⟩
      · unfold lvS; rw [h1, h3, hw3]; exact hc.keep v hv 0 (by omega)
      · unfold paS; rw [h1, h3, hw3]; exact hc.keep v hv 1 (by omega)
  have hst : SpStep E r.S.length rch k (lvS r.S) (paS r.S) (lvS (apT (spreadP srcs rch) r.ctl r.agg nx.1 r.S r.S.length)) (paS (apT (spreadP srcs rch) r.ctl r.agg nx.1 r.S r.S.length)) := ⟨fun v hv => by
    rcases hgen v hv with ⟨h1, _, h2, h3, h4, h5⟩ | ⟨_, h1, h2, h3⟩
    · rw [h2, h3]
      exact .inl ⟨h1, rfl, h4, h5⟩
    · exact .inr ⟨h1, h2, h3⟩⟩
  have h22 : ∀ v, v < r.S.length → (apT (spreadP srcs rch) r.ctl r.agg nx.1 r.S r.S.length).getD v zeroS 2 = U64 := fun v hv => by
    rw [hg v hv, hw3]
    rcases hap v hv with ⟨_, h3, _⟩ | ⟨h3, _⟩ <;> rw [h3] <;> rfl
  have hch : chT (spreadP srcs rch) r.ctl r.agg nx.1 r.S.length = 0 ↔ ∀ v, v < r.S.length → (appV (spreadP srcs rch) r.ctl r.agg nx.1 v).2 = false := hz.2.2
  generalize chT (spreadP srcs rch) r.ctl r.agg nx.1 r.S.length = ch at *
  generalize apT (spreadP srcs rch) r.ctl r.agg nx.1 r.S r.S.length = S' at *
  refine ⟨⟨h.step hE hk hst, h22⟩, ?_, ?_, fun v hv hL => ?_, fun hd v hv => ?_, fun hd => ?_⟩
  · show upd r.ctl 0 (u64p (r.ctl 0)) 0 = _
    rw [hu]; rfl
  · rfl
  · rw [(hst.keep hv hL).1]; exact hL
  · have h1 : ch = 0 := by simpa using (show (ch == 0) = true from hd)
    have h2 := hch.1 h1 v hv
    rcases hgen v hv with ⟨_, h3, _⟩ | ⟨_, h3, _⟩
    · rw [h2] at h3; cases h3
    · exact h3
  · have h1 : ¬ ch = 0 := by simpa using (show (ch == 0) = false from hd)
    refine Classical.byContradiction fun hno => h1 (hch.2 fun v hv => ?_)
    rcases hgen v hv with ⟨h2, _, h3, _⟩ | ⟨h3, _⟩
    · exact absurd ⟨v, hv, h2, by rw [h3]; omega⟩ hno
    · exact h3
end
end Go.Proofs.Ytalpjipopipncaa
