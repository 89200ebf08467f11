/- The walks of the reference's none and of levelled. Conditions: those of each theorem. -/
import Derived.Test.YtalpjipopipncaaPs3
namespace Go.Proofs.Ytalpjipopipncaa
open Go Go.RowKit

set_option maxHeartbeats 1000000 in
theorem none_any (n : Nat) (hn4 : n ≤ 400) (w : World) : Calls Try.prog 43 #[.int .u32 n] w fun e w' => ∃ g : Nat, e = .returned (.slice (some ⟨g, 0, none⟩) n n) ∧ Ext w w' ∧ w.heap.size ≤ g ∧ RowF w' g 33 u64V (fun _ => U64) n := by
  obtain ⟨j0, hj, hy0, hy1, hy2⟩ := info_parts info33
  have hmk := fun W => run_make_rowN (P := Try.prog) 42 33 j0 _ Try.underlying42 hj hy0 .u32 .u32 n n (Nat.le_refl _) (by rw [hy2]; omega) (by omega) W
  rw [hy1] at hmk
  have H0 : Hid (RowF (w.alloc (.cells (madeCells #[.int .u64 0] n) 33)) w.heap.size 33 u64V (fun _ => (0 : Int)) n) := Lib.hid (RowF.made (c := u64V) 0 w 33 n)
  clear hj hy0 hy1 hy2
  go_enter Try.func43, Try.ntmps43
  go_wp2
  clear hmk
  go_loopg [4] n (fun m v wr => ∃ k : Nat, k + m = n ∧ v = .int .i64 k ∧ Ext w wr ∧ RowF wr w.heap.size 33 u64V (fun i => if i < k then U64 else 0) n)
  case atStart => exact ⟨0, by omega, rfl, Ext.alloc _ _, H0.out.congr fun i _ => by rw [if_neg (by omega)]⟩
  clear H0
  case round =>
    obtain ⟨k, hk, rfl, hX, hRow⟩ := hrel
    have hgl : w.heap.size < wr.heap.size := hRow.lt
    by_cases hlt : k < n
    · have hkk : (k : Int) < (n : Int) := by omega
      have hc := hRow.get hlt
      simp only [u64V] at hc
      have hf := hRow.frozen k
      have hR2 := Lib.hid (hRow.set hlt U64)
      have hX2 := Lib.hid (Ext.trans' hX (Keep.setCell (S := [w.heap.size]) (Keep.refl [w.heap.size] wr) (p := ⟨w.heap.size, k, none⟩) (.inl (by simp)) (.int .u64 U64)) (by simp))
      clear hX hRow
      go_wp2
      go_roundg (gk - 1)
      case measure => omega
      case rel => exact ⟨k + 1, by omega, by go_num, hX2.out, hR2.out.congr fun i _ => by
        by_cases h1 : i = k
        · rw [if_pos h1, if_pos (by omega)]
        · rw [if_neg h1]
          by_cases h2 : i < k
          · rw [if_pos h2, if_pos (by omega)]
          · rw [if_neg h2, if_neg (by omega)]⟩
    · have hkn : n = k := by omega
      subst hkn
      have hRow1 := Lib.hid (hRow.congr (f' := fun _ => U64) fun i hi => if_pos hi)
      have HX := Lib.hid hX
      clear hX hRow
      go_wp2
      go_ret
      exact ⟨_, rfl, HX.out, Nat.le_refl _, hRow1.out⟩

/-- How many of the first k are reached; the greatest level among them. -/
def cntF (L : Nat → Int) : Nat → Int
  | 0 => 0
  | k + 1 => if L k = U64 then cntF L k else u64p (cntF L k)
def topF (L : Nat → Int) : Nat → Int
  | 0 => 0
  | k + 1 => if L k = U64 then topF L k else max (topF L k) (L k)
theorem cntF_rch (S : List St) : ∀ k, cntF (lvS S) k = rchU S k
  | 0 => rfl
  | k + 1 => by rw [cntF, rchU, cntF_rch S k]; rfl
theorem topF_max (S : List St) : ∀ k, topF (lvS S) k = maxU S k
  | 0 => rfl
  | k + 1 => by rw [topF, maxU, topF_max S k]; rfl

set_option maxHeartbeats 2000000 in
theorem levelled_any (n : Nat) (hn4 : n ≤ 400) (a : St) (L : Nat → Int) (h0 : a 0 = cntF L n) (h1 : a 1 = topF L n) (g c : Nat) (w : World) (hR : RowF w g 33 u64V L n) :
    Calls Try.prog 29 #[.agg (stC a), .slice (some ⟨g, 0, none⟩) n c] w fun e w' => e = .returned (.bool true) ∧ Ext w w' := by
  have hg := hR.lt
  have H0 := Lib.hid h0
  have H1 := Lib.hid h1
  have HR := Lib.hid hR
  have HA : Hid (At (w.alloc (.cells (stC a) 35)) w.heap.size 0 (stC a)) := Lib.hid (At.new (stC a) 35 rfl)
  clear h0 h1 hR
  go_enter Try.func29, Try.ntmps29
  go_wp2
  change Code.wp _ _ _ _ (w.alloc (.cells (stC a) 35))
  go_loopg [5, 6, 7] n (fun m x y v wr => ∃ k : Nat, k + m = n ∧ v = .int .i64 k ∧ x = .int .u64 (cntF L k) ∧ y = .int .u64 (topF L k) ∧ wr = w.alloc (.cells (stC a) 35))
  case atStart => exact ⟨0, by omega, rfl, rfl, rfl, rfl⟩
  case round =>
    obtain ⟨k, hk, rfl, rfl, rfl, rfl⟩ := hrel
    by_cases hlt : k < n
    · have hkk : (k : Int) < (n : Int) := by omega
      have hc := (HR.out.ext (Ext.alloc w (.cells (stC a) 35))).get hlt
      have lg : g < (w.alloc (.cells (stC a) 35)).heap.size := by simp; omega
      simp only [u64V] at hc
      have e0 : cntF L (k + 1) = if L k = U64 then cntF L k else u64p (cntF L k) := rfl
      have e1 : topF L (k + 1) = if L k = U64 then topF L k else max (topF L k) (L k) := rfl
      generalize w.alloc (.cells (stC a) 35) = W at *
      by_cases hu : L k = U64
      · rw [if_pos hu] at e0 e1
        have q : (L k != 18446744073709551615) = false := by simpa using show L k = 18446744073709551615 from hu
        have E0 := Lib.hid e0
        have E1 := Lib.hid e1
        clear e0 e1 hu
        go_wp2
        go_roundg (gk - 1)
        case measure => omega
        case rel => exact ⟨k + 1, by omega, by go_num, by rw [E0.out], by rw [E1.out], rfl⟩
      · rw [if_neg hu] at e0 e1
        have q : (L k != 18446744073709551615) = true := by simpa using show ¬ L k = 18446744073709551615 from hu
        have E0 := Lib.hid e0
        have E1 := Lib.hid e1
        clear e0 e1 hu
        generalize cntF L k = cn at *
        generalize topF L k = tp at *
        generalize L k = lk at *
        by_cases hm : tp < lk
        · go_wp2
          go_roundg (gk - 1)
          case measure => omega
          case rel => exact ⟨k + 1, by omega, by go_num, by rw [E0.out]; rfl, by rw [E1.out, Int.max_eq_right (by omega)], rfl⟩
        · go_wp2
          go_roundg (gk - 1)
          case measure => omega
          case rel => exact ⟨k + 1, by omega, by go_num, by rw [E0.out]; rfl, by rw [E1.out, Int.max_eq_left (by omega)], rfl⟩
    · have hkn : n = k := by omega
      subst hkn
      rw [← H0.out, ← H1.out]
      have x0 : (w.alloc (.cells (stC a) 35)).cell? ⟨w.heap.size, 0, none⟩ = some (.int .u64 (a 0)) := by simpa using HA.out.cell (j := 0) (v := .int .u64 (a 0)) rfl
      have x1 : (w.alloc (.cells (stC a) 35)).cell? ⟨w.heap.size, 1, none⟩ = some (.int .u64 (a 1)) := by simpa using HA.out.cell (j := 1) (v := .int .u64 (a 1)) rfl
      have lw := HA.out.lt
      have HX : Hid (Ext w (w.alloc (.cells (stC a) 35))) := Lib.hid (Ext.alloc _ _)
      generalize w.alloc (.cells (stC a) 35) = W at *
      go_wp2
      go_ret
      exact ⟨rfl, HX.out⟩
end Go.Proofs.Ytalpjipopipncaa
