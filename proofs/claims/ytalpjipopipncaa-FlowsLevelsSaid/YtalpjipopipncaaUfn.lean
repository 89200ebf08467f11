/- The walk of the document's WCC: a forest of roots. Conditions: those of each theorem. -/
import Derived.Test.YtalpjipopipncaaWrd
namespace Go.Proofs.Ytalpjipopipncaa
open Go Go.RowKit

def ntC (x : Nat) : Array Value := #[.int .u64 x]
theorem ntC_size (x : Nat) : (ntC x).size = 1 := rfl

/-- A forest in an array: no parent lies above its child. -/
def Par (A : List Nat) : Prop := ∀ i, A.getD i 0 ≤ i
def rootN (A : List Nat) : Nat → Nat → Nat
  | 0, v => v
  | f + 1, v => if A.getD v 0 = v then v else rootN A f (A.getD v 0)
def rootOf (A : List Nat) (v : Nat) : Nat := rootN A v v
theorem rootN_eq {A : List Nat} (hP : Par A) : ∀ f f' v, v ≤ f → v ≤ f' → rootN A f v = rootN A f' v := by
  intro f
  induction f with
  | zero =>
    intro f' v h1 h2
    obtain rfl : v = 0 := by omega
    have h0 : A.getD 0 0 = 0 := by have := hP 0; omega
    cases f' with
    | zero => rfl
    | succ f' => simp only [rootN, h0, if_true]
  | succ f ih =>
    intro f' v h1 h2
    have hv := hP v
    cases f' with
    | zero =>
      obtain rfl : v = 0 := by omega
      have h0 : A.getD 0 0 = 0 := by have := hP 0; omega
      simp only [rootN, h0, if_true]
    | succ f' =>
      simp only [rootN]
      split
      · rfl
      · exact ih f' _ (by omega) (by omega)
theorem rootOf_self {A : List Nat} {v : Nat} (h : A.getD v 0 = v) : rootOf A v = v := by
  unfold rootOf
  cases v with
  | zero => rfl
  | succ v => rw [rootN, if_pos h]
theorem rootOf_up {A : List Nat} (hP : Par A) (v : Nat) : rootOf A (A.getD v 0) = rootOf A v := by
  by_cases h : A.getD v 0 = v
  · rw [h]
  · have hv := hP v
    cases v with
    | zero => omega
    | succ v =>
      show rootOf A _ = rootN A (v + 1) (v + 1)
      rw [rootN, if_neg h]
      exact rootN_eq hP _ _ _ (Nat.le_refl _) (by omega)
theorem rootOf_unique {A : List Nat} (hP : Par A) (f : Nat → Nat) (h1 : ∀ v, A.getD v 0 = v → f v = v) (h2 : ∀ v, A.getD v 0 ≠ v → f (A.getD v 0) = f v) : ∀ v, rootOf A v = f v := by
  intro v
  induction v using Nat.strongRecOn with
  | ind v ih =>
    by_cases h : A.getD v 0 = v
    · rw [rootOf_self h, h1 v h]
    · rw [← rootOf_up hP v, ← h2 v h]
      exact ih _ (by have := hP v; omega)
theorem rootOf_le {A : List Nat} (hP : Par A) (v : Nat) : rootOf A v ≤ v := by
  induction v using Nat.strongRecOn with
  | ind v ih =>
    by_cases h : A.getD v 0 = v
    · rw [rootOf_self h]; exact Nat.le_refl _
    · rw [← rootOf_up hP v]
      have := hP v
      have := ih (A.getD v 0) (by omega)
      omega
theorem rootOf_fix {A : List Nat} (hP : Par A) (v : Nat) : A.getD (rootOf A v) 0 = rootOf A v := by
  induction v using Nat.strongRecOn with
  | ind v ih =>
    by_cases h : A.getD v 0 = v
    · rw [rootOf_self h, h]
    · rw [← rootOf_up hP v]
      exact ih _ (by have := hP v; omega)
theorem getD_set (A : List Nat) (v x i : Nat) (hv : v < A.length) : (A.set v x).getD i 0 = if i = v then x else A.getD i 0 := by
  simp only [List.getD_eq_getElem?_getD, List.getElem?_set]
  split
  · subst_vars; simp
  · rw [if_neg (by omega)]
/-- A road made shorter. -/
def halve (A : List Nat) (v : Nat) : List Nat := A.set v (A.getD (A.getD v 0) 0)
theorem halve_par {A : List Nat} (hP : Par A) {v : Nat} (hv : v < A.length) : Par (halve A v) := by
  intro i
  unfold halve
  rw [getD_set A v _ i hv]
  split
  · subst_vars; have := hP i; have := hP (A.getD i 0); omega
  · exact hP i
theorem halve_root {A : List Nat} (hP : Par A) {v : Nat} (hv : v < A.length) : ∀ i, rootOf (halve A v) i = rootOf A i := by
  refine rootOf_unique (halve_par hP hv) (rootOf A) (fun i h => ?_) (fun i h => ?_)
  · unfold halve at h
    rw [getD_set A v _ i hv] at h
    split at h
    · subst_vars
      have := hP i; have := hP (A.getD i 0)
      exact rootOf_self (by omega)
    · exact rootOf_self h
  · unfold halve at h ⊢
    rw [getD_set A v _ i hv] at h ⊢
    split at h
    · rename_i h'
      rw [if_pos h', rootOf_up hP, h', rootOf_up hP]
    · rename_i h'
      rw [if_neg h']
      exact rootOf_up hP i
theorem halve_stay {A A' : List Nat} (hP : Par A') {v : Nat} (hv : v < A'.length) (hr : ∀ i, rootOf A' i = rootOf A i) (h : ∀ j, A.getD j 0 = rootOf A j → A'.getD j 0 = rootOf A j) : ∀ j, A.getD j 0 = rootOf A j → (halve A' v).getD j 0 = rootOf A j := by
  intro j hj
  unfold halve
  rw [getD_set A' v _ j hv]
  split
  · subst_vars
    rw [h j hj, ← hr, rootOf_fix hP]
  · exact h j hj
/-- A vertex is hung at its root. -/
theorem hang_par {A : List Nat} (hP : Par A) {v : Nat} (hv : v < A.length) : Par (A.set v (rootOf A v)) := by
  intro i
  rw [getD_set A v _ i hv]
  split
  · subst_vars; exact rootOf_le hP _
  · exact hP i
theorem hang_root {A : List Nat} (hP : Par A) {v : Nat} (hv : v < A.length) : ∀ i, rootOf (A.set v (rootOf A v)) i = rootOf A i := by
  refine rootOf_unique (hang_par hP hv) (rootOf A) (fun i h => ?_) (fun i h => ?_)
  · rw [getD_set A v _ i hv] at h
    split at h
    · subst_vars; exact h
    · exact rootOf_self h
  · rw [getD_set A v _ i hv] at h ⊢
    split at h
    · rename_i h'
      rw [if_pos h', h']
      exact rootOf_self (rootOf_fix hP v)
    · rename_i h'
      rw [if_neg h']
      exact rootOf_up hP i
theorem halve_length (A : List Nat) (v : Nat) : (halve A v).length = A.length := by simp [halve]
/-- Two trees become one. -/
theorem join_par {A : List Nat} (hP : Par A) {x y : Nat} (hxy : x ≤ y) (hy : y < A.length) : Par (A.set y x) := by
  intro i
  rw [getD_set A y _ i hy]
  split
  · omega
  · exact hP i
theorem join_root {A : List Nat} (hP : Par A) {x y : Nat} (hxy : x ≤ y) (hy : y < A.length) (hx : A.getD x 0 = x) (hyy : A.getD y 0 = y) : ∀ i, rootOf (A.set y x) i = if rootOf A i = y then x else rootOf A i := by
  refine rootOf_unique (join_par hP hxy hy) (fun i => if rootOf A i = y then x else rootOf A i) (fun i h => ?_) (fun i h => ?_)
  · rw [getD_set A y _ i hy] at h
    split at h
    · rename_i h'
      rw [h', rootOf_self hyy, if_pos rfl]
      omega
    · rename_i h'
      rw [rootOf_self h, if_neg h']
  · rw [getD_set A y _ i hy] at h ⊢
    split at h
    · rename_i h'
      subst h'
      rw [if_pos rfl]
      rw [rootOf_self hyy, rootOf_self hx]
      simp
    · rename_i h'
      rw [if_neg h']
      rw [rootOf_up hP i]

theorem row_nt {w : World} {g : Nat} {A : List Nat} (h : Row w g 33 1 ntC A) {i : Nat} (hi : i < A.length) : w.cell? ⟨g, i, none⟩ = some (.int .u64 (A.getD i 0 : Nat)) := by
  have := h.cell hi (j := 0) (by omega) (v := .int .u64 (A[i] : Nat)) rfl
  have e : A.getD i 0 = A[i] := by simp [List.getD_eq_getElem?_getD, List.getElem?_eq_getElem hi]
  rw [e]
  simpa using this
theorem row_nt_set {w : World} {g : Nat} {A : List Nat} (h : Row w g 33 1 ntC A) {i : Nat} (hi : i < A.length) (x : Nat) : Row (w.setCell ⟨g, i, none⟩ (.int .u64 x)) g 33 1 ntC (A.set i x) := by
  have := h.set ntC_size hi (j := 0) (by omega) (v := .int .u64 x) (s := x) (by simp [ntC])
  simpa using this

set_option maxHeartbeats 2000000 in
theorem root_any (A : List Nat) (n : Nat) (hn : A.length = n) (g c : Nat) (hP : Par A) (v : Nat) (hv : v < n) (w : World) (hR : Row w g 33 1 ntC A) :
    Calls Try.prog 36 #[.slice (some ⟨g, 0, none⟩) n c, .int .u64 v] w fun e w' => e = .returned (.int .u64 (rootOf A v : Nat)) ∧ Keep [g] w w' ∧ ∃ A', A'.length = n ∧ Par A' ∧ (∀ i, rootOf A' i = rootOf A i) ∧ Row w' g 33 1 ntC A' ∧ A'.getD (rootOf A v) 0 = rootOf A v ∧ ∀ j, A.getD j 0 = rootOf A j → A'.getD j 0 = rootOf A j := by
  have HR := Lib.hid hR
  have HP := Lib.hid hP
  have HN := Lib.hid hn
  clear hR hP hn
  go_enter Try.func36, Try.ntmps36
  go_wp2
  go_loopg [1] v (fun m u wr => ∃ (A' : List Nat), u = .int .u64 (m : Nat) ∧ m < n ∧ A'.length = n ∧ Par A' ∧ (∀ i, rootOf A' i = rootOf A i) ∧ rootOf A m = rootOf A v ∧ Keep [g] w wr ∧ Row wr g 33 1 ntC A' ∧ ∀ j, A.getD j 0 = rootOf A j → A'.getD j 0 = rootOf A j)
  case atStart => exact ⟨A, rfl, hv, HN.out, HP.out, fun _ => rfl, rfl, Keep.refl _ _, HR.out, fun _ h => h⟩
  case round =>
    obtain ⟨A', rfl, hm, hl, hPA, hroot, hmv, hK, hRow, hst⟩ := hrel
    have HST := Lib.hid hst
    clear hst
    have hgl : g < wr.heap.size := hRow.lt
    have hgn : gk < A'.length := by omega
    have ha := hPA gk
    have e1 := row_nt hRow hgn
    have e2 := row_nt hRow (show A'.getD gk 0 < A'.length by omega)
    have f1 := hRow.frozen gk
    have hgi : (gk : Int) < (n : Int) := by omega
    by_cases hfix : A'.getD gk 0 = gk
    · have hr := rootOf_self hfix
      rw [hfix] at e1
      have HK := Lib.hid hK
      have HRo := Lib.hid hRow
      have HPA := Lib.hid hPA
      have HRt := Lib.hid hroot
      have HFX := Lib.hid hfix
      have hrv : rootOf A v = gk := by rw [← hmv, ← hroot, hr]
      have HRV := Lib.hid hrv
      clear hK hRow hPA hroot hfix hr hrv hmv e2 ha
      go_wp2
      go_ret
      rw [HRV.out]
      exact ⟨rfl, HK.out, A', hl, HPA.out, HRt.out, HRo.out, HFX.out, HST.out⟩
    · have hne : ((A'.getD gk 0 : Nat) : Int) ≠ (gk : Int) := by omega
      have hlt : A'.getD gk 0 < gk := by omega
      have hai : ((A'.getD gk 0 : Nat) : Int) < (n : Int) := by omega
      have hH := row_nt_set hRow hgn (A'.getD (A'.getD gk 0) 0)
      have hK2 : Keep [g] w (wr.setCell ⟨g, gk, none⟩ (.int .u64 (A'.getD (A'.getD gk 0) 0 : Nat))) := hK.setCell (.inl (by simp)) _
      have hnew : rootOf A (A'.getD (A'.getD gk 0) 0) = rootOf A v := by rw [← hroot, rootOf_up hPA, rootOf_up hPA, hroot, hmv]
      have hb := hPA (A'.getD gk 0)
      have hhl := halve_length A' gk
      have hhp := halve_par hPA hgn
      have hhr := halve_root hPA hgn
      have HST2 := Lib.hid (halve_stay hPA hgn hroot HST.out)
      have hbe : (halve A' gk).getD gk 0 = A'.getD (A'.getD gk 0) 0 := by unfold halve; rw [getD_set A' gk _ gk hgn, if_pos rfl]
      change Row _ _ _ _ _ (halve A' gk) at hH
      have hgl2 : g < (wr.setCell ⟨g, gk, none⟩ (.int .u64 (A'.getD (A'.getD gk 0) 0 : Nat))).heap.size := hH.lt
      have e3 := row_nt hH (show gk < (halve A' gk).length by omega)
      rw [hbe] at e3
      generalize A'.getD (A'.getD gk 0) 0 = b at *
      generalize A'.getD gk 0 = a at *
      have HH := Lib.hid hH
      have HK2 := Lib.hid hK2
      have HHP := Lib.hid hhp
      have HHR := Lib.hid hhr
      have HRt := Lib.hid hroot
      have HPA := Lib.hid hPA
      clear hH hK2 hhp hhr hroot hK hRow hPA
      go_upto_region 3 with fail
      generalize wr.setCell ⟨g, gk, none⟩ (.int .u64 (b : Nat)) = V at *
      go_wp2
      go_roundg b
      case measure => omega
      case rel => exact ⟨halve A' gk, rfl, by omega, by omega, HHP.out, fun i => (HHR.out i).trans (HRt.out i), hnew, HK2.out, HH.out, HST2.out⟩

/-- The root of a vertex behind the first k edges. -/
def ufR (E : List Edg) : Nat → Nat → Nat
  | 0, i => i
  | k + 1, i =>
    let x := ufR E k (E.getD k ⟨0, 0, 0⟩).s
    let y := ufR E k (E.getD k ⟨0, 0, 0⟩).d
    if x < y then (if ufR E k i = y then x else ufR E k i) else (if ufR E k i = x then y else ufR E k i)

set_option maxRecDepth 20000 in
set_option maxHeartbeats 4000000 in
theorem refWCC_any (n : Nat) (hn1 : 1 ≤ n) (hn4 : n ≤ 400) (ao : Option Addr) (cap : Nat) (E : List Edg) (hlen : E.length ≤ 9223372036854775807) (hE : ∀ e ∈ E, e.s < n ∧ e.d < n) (w : World) (he : EdgesAt w ao E) :
    Calls Try.prog 14 #[.int .u32 n, .slice ao E.length cap] w fun e w' => ∃ (g : Nat) (A : List Nat), e = .returned (.slice (some ⟨g, 0, none⟩) n n) ∧ Ext w w' ∧ w.heap.size ≤ g ∧ Row w' g 33 1 ntC A ∧ A.length = n ∧ ∀ i, i < n → A.getD i 0 = ufR E E.length i := by
  obtain ⟨i0, hi, hz0, hz1, hz2⟩ := info_parts info33
  have hmk := fun W => run_make_rowN (P := Try.prog) 42 33 i0 _ Try.underlying42 hi hz0 .u32 .u32 n n (Nat.le_refl _) (by rw [hz2]; omega) (by omega) W
  rw [hz1] at hmk
  have H0 : Hid (Row (w.alloc (.cells (madeCells #[.int .u64 0] n) 33)) w.heap.size 33 1 ntC (List.replicate n 0)) := by
    have h := row_made (k := 1) (enc := ntC) 0 rfl w 33 n _ rfl
    rw [Nat.mul_one] at h
    exact h
  have HE := Lib.hid he
  have HED := Lib.hid hE
  clear he hE hi hz0 hz1 hz2
  go_enter Try.func14, Try.ntmps14
  go_wp2
  clear hmk
  go_loopg [6] n (fun m v wr => ∃ (k : Nat) (A : List Nat), k + m = n ∧ v = .int .i64 k ∧ A.length = n ∧ (∀ i, i < k → A.getD i 0 = i) ∧ Ext w wr ∧ Row wr w.heap.size 33 1 ntC A)
  case atStart => exact ⟨0, List.replicate n 0, by omega, rfl, by simp, fun i hi => by omega, Ext.alloc _ _, H0.out⟩
  clear H0
  case round =>
    obtain ⟨k, A, hk, rfl, hA, hlow, hX, hRow⟩ := hrel
    have hgl : w.heap.size < wr.heap.size := hRow.lt
    by_cases hlt : k < n
    · have hkk : (k : Int) < (n : Int) := by omega
      have hc := row_nt hRow (show k < A.length by omega)
      have hf := hRow.frozen k
      have hwk : IntKind.u64.wrap (k : Int) = (k : Int) := by simp [IntKind.wrap, IntKind.bits, IntKind.signed]; omega
      have hR2 := Lib.hid (row_nt_set hRow (show k < A.length by omega) k)
      have hX2 := Lib.hid (Ext.trans' hX (Keep.setCell (S := [w.heap.size]) (Keep.refl [w.heap.size] wr) (p := ⟨w.heap.size, k, none⟩) (.inl (by simp)) (.int .u64 (k : Nat))) (by simp))
      have hlo2 := Lib.hid (show ∀ i, i < k + 1 → (A.set k k).getD i 0 = i from fun i hi => by
        rw [getD_set A k _ i (by omega)]
        split
        · omega
        · exact hlow i (by omega))
      clear hX hRow hlow
      go_wp2
      go_roundg (gk - 1)
      case measure => omega
      case rel => exact ⟨k + 1, A.set k k, by omega, by go_num, by simpa using hA, hlo2.out, hX2.out, hR2.out⟩
    · have hkn : k = n := by omega
      subst hkn
      have hPar : Par A := fun i => by
        by_cases hi : i < k
        · rw [hlow i hi]; exact Nat.le_refl _
        · rw [List.getD_eq_getElem?_getD, List.getElem?_eq_none (by omega)]; simp
      have hR0 : ∀ i, i < k → rootOf A i = ufR E 0 i := fun i hi => rootOf_self (hlow i hi)
      have HX := Lib.hid hX
      have HRow := Lib.hid hRow
      have HPar := Lib.hid hPar
      have HR0 := Lib.hid hR0
      clear hX hRow hPar hR0 hlow
      go_wp2
      have hBX : w.heap.size < wr.heap.size := hgl
      go_loopg [7] E.length (fun m v wr => ∃ (j : Nat) (A : List Nat), j + m = E.length ∧ v = .int .i64 j ∧ A.length = k ∧ Par A ∧ (∀ i, i < k → rootOf A i = ufR E j i) ∧ Ext w wr ∧ Row wr w.heap.size 33 1 ntC A)
      case atStart => exact ⟨0, A, by omega, rfl, hA, HPar.out, HR0.out, HX.out, HRow.out⟩
      clear HX HRow HPar HR0
      case round =>
        obtain ⟨j, A, hj, rfl, hA, hPar, hR, hX, hRow⟩ := hrel
        have hgl : w.heap.size < wr.heap.size := hRow.lt
        by_cases hlt : j < E.length
        · have hjj : (j : Int) < (E.length : Int) := by omega
          obtain ⟨ge, rfl, hge⟩ := HE.out (by intro h; subst h; simp at hlt)
          have hgel : ge < w.heap.size := hge.lt
          have hgeB : ge ≠ w.heap.size := by omega
          obtain ⟨hxs, hxd⟩ := HED.out E[j] (List.getElem_mem hlt)
          have hge1 := hge.ext hX
          have e0 := hge1.cell hlt (j := 0) (by omega) (v := .int .u32 (E[j].s : Nat)) rfl
          simp only [Nat.add_zero] at e0
          have hgel1 : ge < wr.heap.size := by omega
          have hgd : E.getD j ⟨0, 0, 0⟩ = E[j] := by simp [List.getD_eq_getElem?_getD, List.getElem?_eq_getElem hlt]
          have huf : ∀ i, ufR E (j + 1) i = (if ufR E j E[j].s < ufR E j E[j].d then (if ufR E j i = ufR E j E[j].d then ufR E j E[j].s else ufR E j i) else (if ufR E j i = ufR E j E[j].s then ufR E j E[j].d else ufR E j i)) := fun i => by rw [ufR, hgd]
          have hc1 := root_any A k hA w.heap.size k hPar E[j].s hxs wr hRow
          have hge2 : ∀ w1, Keep [w.heap.size] wr w1 → w1.cell? ⟨ge, j * 3 + 1, none⟩ = some (.int .u32 (E[j].d : Nat)) := fun w1 h1 => (hge1.keep h1 (by simp; omega)).cell hlt (j := 1) (by omega) rfl
          generalize E[j] = x at *
          have HUF := Lib.hid huf
          have HR := Lib.hid hR
          have HC1 := Lib.hid hc1
          have HG2 := Lib.hid hge2
          have HX := Lib.hid hX
          have HA0 := Lib.hid hA
          clear huf hR hc1 hge2 hge hge1 hgd hPar hRow hX hA
          go_upto_region 10 with (go_at_call 36; refine HC1.out.mono ?_; rintro e w1 ⟨rfl, hK1, A1, hl1, hp1, hr1, hrow1, hfx1, _⟩)
          have e1 := HG2.out w1 hK1
          have hgel2 : ge < w1.heap.size := by have := hK1.size; omega
          have hgl1 : w.heap.size < w1.heap.size := hrow1.lt
          have hc2 := root_any A1 k hl1 w.heap.size k hp1 x.d hxd w1 hrow1
          rw [hr1] at hc2
          have HC2 := Lib.hid hc2
          have HR1 := Lib.hid hr1
          have HFX1 := Lib.hid hfx1
          have HX1 := Lib.hid (Ext.trans' HX.out hK1 (by simp))
          clear hc2 hr1 hp1 hrow1 hfx1 HC1 HG2 hK1 HX hl1
          go_upto_if 48 with (go_at_call 36; refine HC2.out.mono ?_; rintro e w2 ⟨rfl, hK2, A2, hl2, hp2, hr2, hrow2, hfx2, hst2⟩)
          have hb1 : A2.getD (rootOf A x.s) 0 = rootOf A x.s := by
            have h := hst2 (rootOf A x.s) (by rw [HFX1.out, rootOf_self HFX1.out])
            rwa [rootOf_self HFX1.out] at h
          have hxn : rootOf A x.s < k := by
            by_cases h : rootOf A x.s < k
            · exact h
            · rw [List.getD_eq_getElem?_getD, List.getElem?_eq_none (by omega)] at hb1
              simp at hb1; omega
          have hyn : rootOf A x.d < k := by
            by_cases h : rootOf A x.d < k
            · exact h
            · rw [List.getD_eq_getElem?_getD, List.getElem?_eq_none (by omega)] at hfx2
              simp at hfx2; omega
          have hx0 := HR.out x.s hxs
          have hy0 := HR.out x.d hxd
          have hrr : ∀ i, i < k → rootOf A2 i = ufR E j i := fun i hi => by rw [hr2, HR1.out, HR.out i hi]
          rw [hx0] at hb1 hxn ⊢
          rw [hy0] at hfx2 hyn ⊢
          have huf := HUF.out
          generalize ufR E j x.s = rx at *
          generalize ufR E j x.d = ry at *
          have hgl2 : w.heap.size < w2.heap.size := hrow2.lt
          have hrxi : (rx : Int) < (k : Int) := by omega
          have hryi : (ry : Int) < (k : Int) := by omega
          have q1 := row_nt hrow2 (show rx < A2.length by omega)
          have q2 := row_nt hrow2 (show ry < A2.length by omega)
          have f1 := hrow2.frozen rx
          have f2 := hrow2.frozen ry
          have HX2 := Ext.trans' HX1.out hK2 (by simp)
          by_cases hlt2 : rx < ry
          · have hlt3 : (rx : Int) < (ry : Int) := by omega
            have hP' := join_par hp2 (show rx ≤ ry by omega) (show ry < A2.length by omega)
            have hR' : ∀ i, i < k → rootOf (A2.set ry rx) i = ufR E (j + 1) i := fun i hi => by
              rw [join_root hp2 (show rx ≤ ry by omega) (by omega) hb1 hfx2, hrr i hi, huf i, if_pos hlt2]
            have hW1 := Lib.hid (row_nt_set hrow2 (show ry < A2.length by omega) rx)
            have hXs := Lib.hid (Ext.trans' HX2 (Keep.setCell (S := [w.heap.size]) (Keep.refl [w.heap.size] w2) (p := ⟨w.heap.size, ry, none⟩) (.inl (by simp)) (.int .u64 (rx : Nat))) (by simp))
            have HP' := Lib.hid hP'
            have HR' := Lib.hid hR'
            have HL := Lib.hid hl2
            clear hP' hR' hb1 hfx2 hrr huf HUF HR HR1 HFX1 HX1 hr2 hst2 hp2 hrow2 HX2 hK2 hx0 hy0 hl2 q1 f1 HC2
            go_wp2
            go_roundg (gk - 1)
            case measure => omega
            case rel => exact ⟨j + 1, A2.set ry rx, by omega, by go_num, by rw [List.length_set]; exact HL.out, HP'.out, HR'.out, hXs.out, hW1.out⟩
          · have hlt3 : ¬ (rx : Int) < (ry : Int) := by omega
            have hP' := join_par hp2 (show ry ≤ rx by omega) (show rx < A2.length by omega)
            have hR' : ∀ i, i < k → rootOf (A2.set rx ry) i = ufR E (j + 1) i := fun i hi => by
              rw [join_root hp2 (show ry ≤ rx by omega) (by omega) hfx2 hb1, hrr i hi, huf i, if_neg hlt2]
            have hW1 := Lib.hid (row_nt_set hrow2 (show rx < A2.length by omega) ry)
            have hXs := Lib.hid (Ext.trans' HX2 (Keep.setCell (S := [w.heap.size]) (Keep.refl [w.heap.size] w2) (p := ⟨w.heap.size, rx, none⟩) (.inl (by simp)) (.int .u64 (ry : Nat))) (by simp))
            have HP' := Lib.hid hP'
            have HR' := Lib.hid hR'
            have HL := Lib.hid hl2
            clear hP' hR' hb1 hfx2 hrr huf HUF HR HR1 HFX1 HX1 hr2 hst2 hp2 hrow2 HX2 hK2 hx0 hy0 hl2 q2 f2 HC2
            go_wp2
            go_roundg (gk - 1)
            case measure => omega
            case rel => exact ⟨j + 1, A2.set rx ry, by omega, by go_num, by rw [List.length_set]; exact HL.out, HP'.out, HR'.out, hXs.out, hW1.out⟩
        · have hjE : j = E.length := by omega
          subst hjE
          have HX := Lib.hid hX
          have HRow := Lib.hid hRow
          have HPar := Lib.hid hPar
          have HR0 := Lib.hid hR
          have HED := HED
          clear hX hRow hPar hR HE
          go_wp2
          go_loopg [10] k (fun m v wr => ∃ (i : Nat) (A : List Nat), i + m = k ∧ v = .int .i64 i ∧ A.length = k ∧ Par A ∧ (∀ i, i < k → rootOf A i = ufR E E.length i) ∧ (∀ l, l < i → A.getD l 0 = rootOf A l) ∧ Ext w wr ∧ Row wr w.heap.size 33 1 ntC A)
          case atStart => exact ⟨0, A, by omega, rfl, hA, HPar.out, HR0.out, fun l hl => by omega, HX.out, HRow.out⟩
          clear HX HRow HPar HR0
          case round =>
            obtain ⟨i, A, hi, rfl, hA, hPar, hR, hlow, hX, hRow⟩ := hrel
            have hgl : w.heap.size < wr.heap.size := hRow.lt
            by_cases hlt : i < k
            · have hii : (i : Int) < (k : Int) := by omega
              have hwk : IntKind.u64.wrap (i : Int) = (i : Int) := by simp [IntKind.wrap, IntKind.bits, IntKind.signed]; omega
              have hc1 := root_any A k hA w.heap.size k hPar i hlt wr hRow
              have HC1 := Lib.hid hc1
              have HR := Lib.hid hR
              have HLow := Lib.hid hlow
              have HX := Lib.hid hX
              clear hc1 hR hlow hX hRow hPar hA
              go_wp2_with (go_at_call 36; refine HC1.out.mono ?_; rintro e w1 ⟨rfl, hK1, A1, hl1, hp1, hr1, hrow1, hfx1, hst1⟩; have q1 := row_nt hrow1 (show i < A1.length by omega); have f1 := hrow1.frozen i; have hs1 := hrow1.lt)
              have hi1 : i < A1.length := by omega
              have hgo : A1.set i (rootOf A i) = A1.set i (rootOf A1 i) := by rw [hr1]
              have hP' := hang_par hp1 hi1
              have hRt := hang_root hp1 hi1
              rw [← hgo] at hP' hRt
              have hR' : ∀ l, l < k → rootOf (A1.set i (rootOf A i)) l = ufR E E.length l := fun l hl => by rw [hRt, hr1, HR.out l hl]
              have hL' : ∀ l, l < i + 1 → (A1.set i (rootOf A i)).getD l 0 = rootOf (A1.set i (rootOf A i)) l := fun l hl => by
                rw [hRt, hr1, getD_set A1 i _ l hi1]
                split
                · subst_vars; rfl
                · exact hst1 l (HLow.out l (by omega))
              have hW1 := row_nt_set hrow1 hi1 (rootOf A i)
              have hXs := Ext.trans' (Ext.trans' HX.out hK1 (by simp)) (Keep.setCell (S := [w.heap.size]) (Keep.refl [w.heap.size] w1) (p := ⟨w.heap.size, i, none⟩) (.inl (by simp)) (.int .u64 (rootOf A i : Nat))) (by simp)
              go_roundg (gk - 1)
              case measure => omega
              case rel => exact ⟨i + 1, A1.set i (rootOf A i), by omega, by go_num, by rw [List.length_set]; exact hl1, hP', hR', hL', hXs, hW1⟩
            · have hik : i = k := by omega
              subst hik
              have hfin : ∀ l, l < i → A.getD l 0 = ufR E E.length l := fun l hl => by rw [hlow l hl, hR l hl]
              have HX := Lib.hid hX
              have HRow := Lib.hid hRow
              have HFin := Lib.hid hfin
              clear hX hRow hPar hR hlow hfin
              go_wp2
              go_ret
              exact ⟨w.heap.size, A, rfl, HX.out, Nat.le_refl _, HRow.out, hA, HFin.out⟩
end Go.Proofs.Ytalpjipopipncaa
