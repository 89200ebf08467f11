/- Plain: the queue finds the levels. Conditions: those of each theorem. -/
import Derived.Test.YtalpjipopipncaaPs3
namespace Go.Proofs.Ytalpjipopipncaa
open Go Go.RowKit

/-- The levels, as they are. -/
structure LevD (E : List Edg) (n : Nat) (srcs : List Nat) (D : Nat → Int) : Prop where
  lv : ∀ v, v < n → D v = U64 ∨ (0 ≤ D v ∧ D v < n)
  src : ∀ v, v < n → v ∈ srcs → D v = 0
  held : ∀ v, v < n → D v ≠ U64 → v ∉ srcs → ∃ x ∈ E, x.d = v ∧ D x.s + 1 = D v
  edge : ∀ x ∈ E, D x.s ≠ U64 → D x.d ≠ U64 ∧ D x.d ≤ D x.s + 1
theorem SpFin.levD {E : List Edg} {n : Nat} {srcs : List Nat} {rch : Bool} {L P : Nat → Int} (h : SpFin E n srcs rch L P) : LevD E n srcs L :=
  ⟨h.lv, fun v hv hs => (h.src v hv hs).1, fun v hv h0 hs => by
    obtain ⟨x, hx, h1, h2, _⟩ := h.held v hv h0 hs
    exact ⟨x, hx, h1, h2⟩, h.edge⟩
/-- The queue Q and the levels found so far, with the first h of the queue gone through. -/
structure QInv (E : List Edg) (n : Nat) (srcs : List Nat) (D : Nat → Int) (h : Nat) (A : Nat → Int) (Q : List Nat) : Prop where
  mem : ∀ v, v < n → (A v ≠ U64 ↔ v ∈ Q)
  lt : ∀ v ∈ Q, v < n
  eq : ∀ v ∈ Q, A v = D v ∧ D v ≠ U64
  mono : ∀ i j, i ≤ j → j < Q.length → D (Q.getD i 0) ≤ D (Q.getD j 0)
  near : ∀ j, j < Q.length → h < Q.length → D (Q.getD j 0) ≤ D (Q.getD h 0) + 1
  proc : ∀ i, i < h → ∀ x ∈ E, x.s = Q.getD i 0 → x.d ∈ Q
  src : ∀ s ∈ srcs, s ∈ Q
  cnt : Q.length ≤ (List.range n).countP (fun v => decide (A v ≠ U64))
  hle : h ≤ Q.length
section
variable {E : List Edg} {n : Nat} {srcs : List Nat} {D : Nat → Int} {h : Nat} {A : Nat → Int} {Q : List Nat}
theorem QInv.len (q : QInv E n srcs D h A Q) : Q.length ≤ n := by
  have h1 := q.cnt
  have h2 := List.countP_le_length (p := fun v => decide (A v ≠ U64)) (l := List.range n)
  rw [List.length_range] at h2
  omega
theorem getD_in {Q : List Nat} {i : Nat} (h : i < Q.length) : Q.getD i 0 ∈ Q := by
  rw [List.getD_eq_getElem?_getD, List.getElem?_eq_getElem h]
  exact List.getElem_mem _
theorem in_getD {Q : List Nat} {v : Nat} (h : v ∈ Q) : ∃ i, i < Q.length ∧ Q.getD i 0 = v := by
  obtain ⟨i, hi, rfl⟩ := List.getElem_of_mem h
  exact ⟨i, hi, by rw [List.getD_eq_getElem?_getD, List.getElem?_eq_getElem hi]; rfl⟩
/-- What lies below the head has been found. -/
theorem QInv.below (hd : LevD E n srcs D) (hE : ∀ x ∈ E, x.s < n ∧ x.d < n) (hn : n ≤ 400) (q : QInv E n srcs D h A Q) (hlt : ∀ m v, v < n → D v = (m : Nat) → v ∈ Q → h < Q.length → D v < D (Q.getD h 0) → ∃ i, i < h ∧ Q.getD i 0 = v) (hh : h < Q.length) :
    ∀ (m : Nat) v, v < n → D v = m → (m : Int) < D (Q.getD h 0) → v ∈ Q
  | m, v, hv, hm, hb => by
    have hU := u64_big
    have hqh := hd.lv _ (q.lt _ (getD_in hh))
    have hq2 := (q.eq _ (getD_in hh)).2
    by_cases hs : v ∈ srcs
    · exact q.src v hs
    · obtain ⟨x, hx, rfl, h1⟩ := hd.held v hv (by omega) hs
      have hxs := (hE x hx).1
      have h2 := hd.lv x.s hxs
      have h3 := hd.lv x.d hv
      obtain ⟨m', hm'⟩ : ∃ k : Nat, D x.s = k := ⟨(D x.s).toNat, by omega⟩
      have hlt' : m' < m := by omega
      have h4 := QInv.below hd hE hn q hlt hh m' x.s hxs hm' (by omega)
      obtain ⟨i, hi, hi2⟩ := hlt m' x.s hxs hm' h4 hh (by omega)
      exact q.proc i hi x hx hi2.symm
termination_by m => m
theorem QInv.before (q : QInv E n srcs D h A Q) {v : Nat} (hv : v ∈ Q) (hlt : D v < D (Q.getD h 0)) : ∃ i, i < h ∧ Q.getD i 0 = v := by
  obtain ⟨i, hi, rfl⟩ := in_getD hv
  refine ⟨i, ?_, rfl⟩
  refine Classical.byContradiction fun hc => ?_
  have := q.mono h i (by omega) hi
  omega
theorem QInv.next (hd : LevD E n srcs D) (hE : ∀ x ∈ E, x.s < n ∧ x.d < n) (hn : n ≤ 400) (q : QInv E n srcs D h A Q) (hh : h < Q.length) {x : Edg} (hx : x ∈ E) (hs : x.s = Q.getD h 0) (hno : x.d ∉ Q) : D x.d = D x.s + 1 := by
  have hU := u64_big
  have hq := q.eq _ (getD_in hh)
  have hbl := QInv.below hd hE hn q (fun m v _ _ hv _ hl => q.before hv hl) hh
  obtain ⟨hxs, hxd⟩ := hE x hx
  rw [← hs] at hq hbl
  obtain ⟨h1, h2⟩ := hd.edge x hx hq.2
  have h3 := hd.lv x.d hxd
  have h3s := hd.lv x.s hxs
  refine Classical.byContradiction fun hc => hno ?_
  by_cases hsr : x.d ∈ srcs
  · exact q.src _ hsr
  · obtain ⟨y, hy, hyd, h4⟩ := hd.held x.d hxd h1 hsr
    have hys := (hE y hy).1
    have h5 := hd.lv y.s hys
    obtain ⟨m', hm'⟩ : ∃ k : Nat, D y.s = k := ⟨(D y.s).toNat, by omega⟩
    have h6 := hbl m' y.s hys hm' (by omega)
    obtain ⟨i, hi, hi2⟩ := q.before h6 (by rw [← hs]; omega)
    rw [← hyd]
    exact q.proc i hi y hy hi2.symm
theorem getD_app {Q : List Nat} {v i : Nat} (h : i < Q.length) : (Q ++ [v]).getD i 0 = Q.getD i 0 := by
  rw [List.getD_eq_getElem?_getD, List.getD_eq_getElem?_getD, List.getElem?_append_left h]
theorem getD_last {Q : List Nat} {v : Nat} : (Q ++ [v]).getD Q.length 0 = v := by
  rw [List.getD_eq_getElem?_getD, List.getElem?_append_right (Nat.le_refl _)]
  simp
theorem QInv.push (hd : LevD E n srcs D) (hE : ∀ x ∈ E, x.s < n ∧ x.d < n) (hn : n ≤ 400) (q : QInv E n srcs D h A Q) (hh : h < Q.length) {x : Edg} (hx : x ∈ E) (hs : x.s = Q.getD h 0) (hno : A x.d = U64) :
    QInv E n srcs D h (fun v => if v = x.d then A x.s + 1 else A v) (Q ++ [x.d]) := by
  have hU := u64_big
  obtain ⟨hxs, hxd⟩ := hE x hx
  have hnq : x.d ∉ Q := fun hc => (q.mem _ hxd).2 hc hno
  have hnx := q.next hd hE hn hh hx hs hnq
  have hq := q.eq _ (getD_in hh)
  rw [← hs] at hq
  have h3s := hd.lv x.s hxs
  have hlen : (Q ++ [x.d]).length = Q.length + 1 := by simp
  have hne : ∀ v ∈ Q, v ≠ x.d := fun v hv hc => hnq (by rw [← hc]; exact hv)
  refine ⟨fun v hv => ?_, fun v hv => ?_, fun v hv => ?_, fun i j hij hj => ?_, fun j hj _ => ?_, fun i hi y hy hys => ?_, fun s hs => List.mem_append_left _ (q.src s hs), ?_, by rw [hlen]; omega⟩
  · rw [List.mem_append, List.mem_singleton]
    by_cases hvx : v = x.d
    · rw [if_pos hvx]
      exact ⟨fun _ => .inr hvx, fun _ => by omega⟩
    · rw [if_neg hvx, q.mem v hv]
      exact ⟨.inl, fun hc => hc.resolve_right hvx⟩
  · rcases List.mem_append.1 hv with hv | hv
    · exact q.lt v hv
    · rw [List.mem_singleton.1 hv]; exact hxd
  · rcases List.mem_append.1 hv with hv | hv
    · rw [if_neg (hne v hv)]; exact q.eq v hv
    · rw [List.mem_singleton.1 hv]
      rw [if_pos rfl]
      exact ⟨by omega, by omega⟩
  · rw [hlen] at hj
    by_cases hjl : j = Q.length
    · subst hjl
      rw [getD_last]
      by_cases hil : i = Q.length
      · subst hil; rw [getD_last]; exact Int.le_refl _
      · rw [getD_app (by omega)]
        have := q.near i (by omega) hh
        rw [← hs] at this
        omega
    · rw [getD_app (by omega), getD_app (by omega)]
      exact q.mono i j hij (by omega)
  · rw [hlen] at hj
    rw [getD_app hh]
    by_cases hjl : j = Q.length
    · subst hjl; rw [getD_last, ← hs]; omega
    · rw [getD_app (by omega)]
      exact q.near j (by omega) hh
  · have hi2 : i < Q.length := by have := q.hle; omega
    rw [getD_app hi2] at hys
    exact List.mem_append_left _ (q.proc i hi y hy hys)
  · rw [hlen]
    have h1 := q.cnt
    have h2 := countP_lt' (p := fun v => decide (A v ≠ U64)) (q := fun v => decide ((if v = x.d then A x.s + 1 else A v) ≠ U64)) (List.range n) (fun v hv hp => by
      simp only [decide_eq_true_eq] at hp ⊢
      by_cases hvx : v = x.d
      · rw [if_pos hvx]; omega
      · rw [if_neg hvx]; exact hp) x.d (List.mem_range.2 hxd) (by simpa using hno) (by simp only [if_true, decide_eq_true_eq]; omega)
    omega
theorem QInv.step (q : QInv E n srcs D h A Q) (hh : h < Q.length) (hp : ∀ x ∈ E, x.s = Q.getD h 0 → x.d ∈ Q) : QInv E n srcs D (h + 1) A Q := by
  refine ⟨q.mem, q.lt, q.eq, q.mono, fun j hj hh1 => ?_, fun i hi x hx hs => ?_, q.src, q.cnt, hh⟩
  · have h1 := q.near j hj hh
    have h2 := q.mono h (h + 1) (by omega) hh1
    omega
  · by_cases hih : i = h
    · subst hih; exact hp x hx hs
    · exact q.proc i (by omega) x hx hs
theorem QInv.all (hd : LevD E n srcs D) (hE : ∀ x ∈ E, x.s < n ∧ x.d < n) (hn : n ≤ 400) (q : QInv E n srcs D Q.length A Q) : ∀ (m : Nat) v, v < n → D v = m → m < n → v ∈ Q
  | m, v, hv, hm, hmn => by
    have hU := u64_big
    by_cases hs : v ∈ srcs
    · exact q.src v hs
    · have h3 := hd.lv v hv
      obtain ⟨x, hx, rfl, h1⟩ := hd.held v hv (by omega) hs
      have hxs := (hE x hx).1
      have h2 := hd.lv x.s hxs
      obtain ⟨m', hm'⟩ : ∃ k : Nat, D x.s = k := ⟨(D x.s).toNat, by omega⟩
      have hlt' : m' < m := by omega
      have h4 := QInv.all hd hE hn q m' x.s hxs hm' (by omega)
      obtain ⟨i, hi, hi2⟩ := in_getD h4
      exact q.proc i hi x hx hi2.symm
termination_by m => m
theorem QInv.fin (hd : LevD E n srcs D) (hE : ∀ x ∈ E, x.s < n ∧ x.d < n) (hn : n ≤ 400) (q : QInv E n srcs D Q.length A Q) (v : Nat) (hv : v < n) : A v = D v := by
  by_cases hq : v ∈ Q
  · exact (q.eq v hq).1
  · have h1 : A v = U64 := Classical.byContradiction fun hc => hq ((q.mem v hv).1 hc)
    rw [h1]
    rcases hd.lv v hv with h2 | h2
    · exact h2.symm
    · exact absurd (q.all hd hE hn (D v).toNat v hv (by omega) (by omega)) hq

/-- While the sources are laid into the queue. -/
structure SInv (n : Nat) (T : List Nat) (A : Nat → Int) (Q : List Nat) : Prop where
  mem : ∀ v, v < n → (A v ≠ U64 ↔ v ∈ Q)
  eq : ∀ v ∈ Q, A v = 0 ∧ v ∈ T ∧ v < n
  src : ∀ s ∈ T, s ∈ Q
  cnt : Q.length ≤ (List.range n).countP (fun v => decide (A v ≠ U64))
theorem SInv.nil (n : Nat) : SInv n [] (fun _ => U64) [] := ⟨fun v _ => ⟨fun h => absurd rfl h, fun h => (by cases h)⟩, fun v h => (by cases h), fun v h => (by cases h), Nat.zero_le _⟩
theorem SInv.skip {T : List Nat} (q : SInv n T A Q) {s : Nat} (hs : s < n) (h : A s ≠ U64) : SInv n (T ++ [s]) A Q := by
  refine ⟨q.mem, fun v hv => ?_, fun v hv => ?_, q.cnt⟩
  · obtain ⟨h1, h2, h3⟩ := q.eq v hv
    exact ⟨h1, List.mem_append_left _ h2, h3⟩
  · rcases List.mem_append.1 hv with hv | hv
    · exact q.src v hv
    · rw [List.mem_singleton.1 hv]; exact (q.mem s hs).1 h
theorem SInv.push {T : List Nat} (q : SInv n T A Q) {s : Nat} (hs : s < n) (h : A s = U64) : SInv n (T ++ [s]) (fun v => if v = s then 0 else A v) (Q ++ [s]) := by
  have hU := u64_big
  have hnq : s ∉ Q := fun hc => (q.mem _ hs).2 hc h
  refine ⟨fun v hv => ?_, fun v hv => ?_, fun v hv => ?_, ?_⟩
  · rw [List.mem_append, List.mem_singleton]
    by_cases hvx : v = s
    · rw [if_pos hvx]
      exact ⟨fun _ => .inr hvx, fun _ => by omega⟩
    · rw [if_neg hvx, q.mem v hv]
      exact ⟨.inl, fun hc => hc.resolve_right hvx⟩
  · rcases List.mem_append.1 hv with hv | hv
    · obtain ⟨h1, h2, h3⟩ := q.eq v hv
      rw [if_neg (fun hc => hnq (by rw [← hc]; exact hv))]
      exact ⟨h1, List.mem_append_left _ h2, h3⟩
    · rw [List.mem_singleton.1 hv]
      rw [if_pos rfl]
      exact ⟨rfl, by simp, hs⟩
  · rcases List.mem_append.1 hv with hv | hv
    · exact List.mem_append_left _ (q.src v hv)
    · exact List.mem_append_right _ hv
  · have h1 := q.cnt
    have h2 := countP_lt' (p := fun v => decide (A v ≠ U64)) (q := fun v => decide ((if v = s then (0 : Int) else A v) ≠ U64)) (List.range n) (fun v hv hp => by
      simp only [decide_eq_true_eq] at hp ⊢
      by_cases hvx : v = s
      · rw [if_pos hvx]; omega
      · rw [if_neg hvx]; exact hp) s (List.mem_range.2 hs) (by simpa using h) (by simp only [if_true, decide_eq_true_eq]; omega)
    rw [List.length_append, List.length_singleton]
    omega
theorem SInv.inv (hd : LevD E n srcs D) (q : SInv n srcs A Q) : QInv E n srcs D 0 A Q := by
  have hU := u64_big
  have h0 : ∀ v ∈ Q, D v = 0 := fun v hv => hd.src v (q.eq v hv).2.2 (q.eq v hv).2.1
  refine ⟨q.mem, fun v hv => (q.eq v hv).2.2, fun v hv => ?_, fun i j hij hj => ?_, fun j hj hh => ?_, fun i hi => by omega, q.src, q.cnt, Nat.zero_le _⟩
  · rw [h0 v hv, (q.eq v hv).1]; exact ⟨rfl, by omega⟩
  · rw [h0 _ (getD_in (show i < Q.length by omega)), h0 _ (getD_in hj)]; exact Int.le_refl _
  · rw [h0 _ (getD_in hh), h0 _ (getD_in hj)]; omega
end
end Go.Proofs.Ytalpjipopipncaa
