/- Plain: what the spread's play comes to: levels, and from whom. Conditions: those of each theorem. -/
import Derived.Test.YtalpjipopipncaaSpr
import Derived.Test.YtalpjipopipncaaPw3
namespace Go.Proofs.Ytalpjipopipncaa
open Go Go.RowKit

theorem u64_big : (1000000 : Int) < U64 := by unfold U64; omega
/-- What an edge offers. -/
def offI (rch : Bool) (P : Nat → Int) (x : Edg) : Int := if rch then P x.s else (x.s : Int)

/-- The spread ahead of round k: levels L, from P. -/
structure SpAt (E : List Edg) (n : Nat) (srcs : List Nat) (rch : Bool) (k : Nat) (L P : Nat → Int) : Prop where
  lv : ∀ v, v < n → L v = U64 ∨ (0 ≤ L v ∧ L v ≤ k)
  src : ∀ v, v < n → v ∈ srcs → L v = 0 ∧ P v = v
  zero : ∀ v, v < n → L v = 0 → v ∈ srcs
  un : ∀ v, v < n → L v = U64 → P v = U64
  re : ∀ v, v < n → L v ≠ U64 → 0 ≤ P v ∧ P v < n
  held : ∀ v, v < n → L v ≠ U64 → v ∉ srcs → ∃ x ∈ E, x.d = v ∧ L x.s + 1 = L v ∧ P v = offI rch P x
  least : ∀ x ∈ E, L x.s ≠ U64 → L x.d = L x.s + 1 → P x.d ≤ offI rch P x
  edge : ∀ x ∈ E, L x.s < k → L x.d ≠ U64 ∧ L x.d ≤ L x.s + 1
/-- One round. -/
structure SpStep (E : List Edg) (n : Nat) (rch : Bool) (k : Nat) (L P L' P' : Nat → Int) : Prop where
  each : ∀ v, v < n → (L v = U64 ∧ L' v = ((k + 1 : Nat) : Int) ∧ (∃ x ∈ E, x.d = v ∧ L x.s = k ∧ P' v = offI rch P x) ∧ (∀ x ∈ E, x.d = v → L x.s = k → P' v ≤ offI rch P x)) ∨
    (L' v = L v ∧ P' v = P v ∧ (L v ≠ U64 ∨ ∀ x ∈ E, x.d = v → L x.s ≠ k))
section
variable {E : List Edg} {n : Nat} {srcs : List Nat} {rch : Bool} {k : Nat} {L P L' P' : Nat → Int}
theorem SpStep.keep (h : SpStep E n rch k L P L' P') {v : Nat} (hv : v < n) (hl : L v ≠ U64) : L' v = L v ∧ P' v = P v := by
  rcases h.each v hv with ⟨h1, _⟩ | ⟨h1, h2, _⟩
  · exact absurd h1 hl
  · exact ⟨h1, h2⟩
theorem SpStep.old (h : SpStep E n rch k L P L' P') {v : Nat} (hv : v < n) (hl : L' v ≤ k) : L v = L' v := by
  rcases h.each v hv with ⟨_, h1, _⟩ | ⟨h1, _⟩
  · rw [h1] at hl; omega
  · exact h1.symm
theorem SpStep.off (h : SpStep E n rch k L P L' P') {x : Edg} (hx : x.s < n) (hl : L x.s ≠ U64) : offI rch P' x = offI rch P x := by
  unfold offI
  rw [(h.keep hx hl).2]
theorem SpAt.step (hE : ∀ x ∈ E, x.s < n ∧ x.d < n) (hk : k < 1000) (h : SpAt E n srcs rch k L P) (t : SpStep E n rch k L P L' P') : SpAt E n srcs rch (k + 1) L' P' := by
  have hU := u64_big
  have hkU : ((k : Nat) : Int) ≠ U64 := by omega
  have hlv : ∀ v, v < n → L' v = U64 ∨ (0 ≤ L' v ∧ L' v ≤ ((k + 1 : Nat) : Int)) := fun v hv => by
    rcases t.each v hv with ⟨_, h1, _⟩ | ⟨h1, _⟩
    · right; omega
    · rw [h1]
      rcases h.lv v hv with h2 | h2
      · exact .inl h2
      · right; omega
  refine ⟨hlv, fun v hv hs => ?_, fun v hv h0 => ?_, fun v hv h0 => ?_, fun v hv h0 => ?_, fun v hv h0 hs => ?_, fun x hx h0 h1 => ?_, fun x hx h0 => ?_⟩
  · obtain ⟨h1, h2⟩ := h.src v hv hs
    obtain ⟨h3, h4⟩ := t.keep hv (by omega)
    exact ⟨by rw [h3, h1], by rw [h4, h2]⟩
  · exact h.zero v hv (by rw [t.old hv (by omega)]; exact h0)
  · rcases t.each v hv with ⟨_, h1, _⟩ | ⟨h1, h2, _⟩
    · omega
    · rw [h2]; exact h.un v hv (by rw [← h1]; exact h0)
  · rcases t.each v hv with ⟨_, _, ⟨x, hx, _, h3, h4⟩, _⟩ | ⟨h1, h2, _⟩
    · rw [h4]
      unfold offI
      have := (hE x hx).1
      split
      · exact h.re x.s this (by omega)
      · omega
    · rw [h2]; exact h.re v hv (by rw [← h1]; exact h0)
  · rcases t.each v hv with ⟨_, h1, ⟨x, hx, h2, h3, h4⟩, _⟩ | ⟨h1, h2, _⟩
    · have hxs := (hE x hx).1
      have hne : L x.s ≠ U64 := by omega
      refine ⟨x, hx, h2, ?_, ?_⟩
      · rw [(t.keep hxs hne).1, h1, h3]; omega
      · rw [t.off hxs hne]; exact h4
    · obtain ⟨x, hx, h3, h4, h5⟩ := h.held v hv (by rw [← h1]; exact h0) hs
      have hxs := (hE x hx).1
      have hne : L x.s ≠ U64 := by
        have := h.lv v hv
        omega
      refine ⟨x, hx, h3, ?_, ?_⟩
      · rw [(t.keep hxs hne).1, h1]; exact h4
      · rw [t.off hxs hne, h2]; exact h5
  · obtain ⟨hxs, hxd⟩ := hE x hx
    have h2 := hlv x.s hxs
    have h3 := hlv x.d hxd
    rcases t.each x.d hxd with ⟨_, h4, _, h5⟩ | ⟨h4, h6, _⟩
    · have h7 := t.old hxs (show L' x.s ≤ k by omega)
      have hne : L x.s ≠ U64 := by omega
      rw [t.off hxs hne]
      exact h5 x hx rfl (by omega)
    · have h8 := h.lv x.d hxd
      have h7 := t.old hxs (show L' x.s ≤ k by omega)
      have hne : L x.s ≠ U64 := by omega
      rw [t.off hxs hne, h6]
      exact h.least x hx hne (by omega)
  · obtain ⟨hxs, hxd⟩ := hE x hx
    have h2 := hlv x.s hxs
    have h7 := t.old hxs (show L' x.s ≤ k by omega)
    by_cases hlt : L x.s < k
    · obtain ⟨h3, h4⟩ := h.edge x hx hlt
      rw [(t.keep hxd h3).1]
      exact ⟨h3, by omega⟩
    · rcases t.each x.d hxd with ⟨_, h4, _⟩ | ⟨h4, _, h5⟩
      · omega
      · rcases h5 with h5 | h5
        · have := h.lv x.d hxd
          rw [h4]
          exact ⟨h5, by omega⟩
        · exact absurd (show L x.s = k by omega) (h5 x hx rfl)

/-- What the spread comes to. -/
structure SpFin (E : List Edg) (n : Nat) (srcs : List Nat) (rch : Bool) (L P : Nat → Int) : Prop where
  lv : ∀ v, v < n → L v = U64 ∨ (0 ≤ L v ∧ L v < n)
  src : ∀ v, v < n → v ∈ srcs → L v = 0 ∧ P v = v
  zero : ∀ v, v < n → L v = 0 → v ∈ srcs
  un : ∀ v, v < n → L v = U64 → P v = U64
  re : ∀ v, v < n → L v ≠ U64 → 0 ≤ P v ∧ P v < n
  held : ∀ v, v < n → L v ≠ U64 → v ∉ srcs → ∃ x ∈ E, x.d = v ∧ L x.s + 1 = L v ∧ P v = offI rch P x
  least : ∀ x ∈ E, L x.s ≠ U64 → L x.d = L x.s + 1 → P x.d ≤ offI rch P x
  edge : ∀ x ∈ E, L x.s ≠ U64 → L x.d ≠ U64 ∧ L x.d ≤ L x.s + 1
theorem SpAt.fin (hE : ∀ x ∈ E, x.s < n ∧ x.d < n) (hkn : k < n) (h : SpAt E n srcs rch k L P) (h1 : SpAt E n srcs rch (k + 1) L' P') (he : ∀ v, v < n → L' v = L v) : SpFin E n srcs rch L' P' := by
  refine ⟨fun v hv => ?_, h1.src, h1.zero, h1.un, h1.re, h1.held, h1.least, fun x hx h0 => h1.edge x hx ?_⟩
  · rw [he v hv]
    have := h.lv v hv
    omega
  · have hxs := (hE x hx).1
    rw [he _ hxs] at h0 ⊢
    have := h.lv x.s hxs
    omega
end
end Go.Proofs.Ytalpjipopipncaa
