/- The walks of the library's Max and Sorted, and of spreading, where the sort does what it promises. Conditions: those of each theorem. -/
import Derived.Test.YtalpjipopipncaaSeq
import Derived.Test.YtalpjipopipncaaFlq
namespace Go.Proofs.Ytalpjipopipncaa
open Go Go.RowKit

set_option maxHeartbeats 2000000 in
theorem max_any (zs : List Nat) (n : Nat) (hn : zs.length = n) (hn1 : 1 ≤ n) (hlen : n ≤ 1000000) (g c : Nat) (w : World) (hR : Row w g 25 1 u32C zs) :
    Calls Try.prog 54 #[.slice (some ⟨g, 0, none⟩) n c] w fun e w' => ∃ m : Nat, (e = .returned (.int .u32 m) ∧ m ∈ zs) ∧ w' = w := by
  have HR := Lib.hid hR
  have HN := Lib.hid hn
  have hg := hR.lt
  have q0 := row_u32 hR (show 0 < zs.length by omega)
  have h0 : zs.getD 0 0 ∈ zs := by
    rw [List.getD_eq_getElem?_getD, List.getElem?_eq_getElem (by omega)]
    exact List.getElem_mem _
  have hn1i : ¬ (n : Int) < 1 := by omega
  have hn0i : (0 : Int) < (n : Int) := by omega
  have hm : ∀ i, i < n → zs.getD i 0 ∈ zs := fun i hi => by
    rw [List.getD_eq_getElem?_getD, List.getElem?_eq_getElem (by omega)]
    exact List.getElem_mem _
  generalize zs.getD 0 0 = m0 at *
  have H0 := Lib.hid h0
  have HM := Lib.hid hm
  clear hR hn h0 hm
  go_enter Try.func54, Try.ntmps54
  go_wp2
  go_loopg [3, 4] n (fun m a i wr => ∃ (x k : Nat), k + m = n + 1 ∧ k ≤ n ∧ 1 ≤ k ∧ a = .int .u32 x ∧ i = .int .i64 k ∧ x ∈ zs ∧ wr = w)
  case atStart => exact ⟨m0, 1, by omega, by omega, by omega, rfl, rfl, H0.out, rfl⟩
  case round =>
    obtain ⟨x, k, hk, hkn, hk1, rfl, rfl, hx, rfl⟩ := hrel
    have HX := Lib.hid hx
    clear hx
    by_cases hlt : k < n
    · have hkk : (k : Int) < (n : Int) := by omega
      have q := row_u32 HR.out (show k < zs.length by rw [HN.out]; exact hlt)
      have hy := Lib.hid (HM.out k hlt)
      generalize zs.getD k 0 = y at *
      by_cases hxy : x < y
      · have hxyi : (x : Int) < (y : Int) := by omega
        go_wp2
        go_roundg (gk - 1)
        case measure => omega
        case rel => exact ⟨y, k + 1, by omega, by omega, by omega, rfl, by go_num, hy.out, rfl⟩
      · have hxyi : ¬ (x : Int) < (y : Int) := by omega
        go_wp2
        go_roundg (gk - 1)
        case measure => omega
        case rel => exact ⟨x, k + 1, by omega, by omega, by omega, rfl, by go_num, HX.out, rfl⟩
    · have hkk : ¬ (k : Int) < (n : Int) := by omega
      go_wp2
      go_ret
      exact ⟨⟨x, rfl, HX.out⟩, rfl⟩

/-- The library's sort does what it promises, at rows of n numbers. -/
def SortOK (n : Nat) : Prop := ∀ (g c : Nat) (zs : List Nat) (w : World), zs.length = n → Row w g 25 1 u32C zs → Calls Try.prog 61 #[.slice (some ⟨g, 0, none⟩) n c] w fun e w' =>
  e = .returned (.tuple #[]) ∧ Keep [g] w w' ∧ ∃ L : List Nat, L.length = n ∧ Asc L ∧ (∀ v, v ∈ L ↔ v ∈ zs) ∧ Row w' g 25 1 u32C L

set_option maxHeartbeats 1000000 in
theorem sorted_any {n : Nat} (hS : SortOK n) (Bs b cap : Nat) (zs : List Nat) (hn : zs.length = n) (hn1 : 1 ≤ n) (hlen : n ≤ 1000000) (w : World) (hBs : Bs < w.heap.size)
    (hcB : w.cell? ⟨Bs, 0, none⟩ = some (.slice (some ⟨b, 0, none⟩) n cap)) (hR : Row w b 25 1 u32C zs) :
    Calls Try.prog 55 #[.func (.func 62) #[] #[.pointer (some ⟨Bs, 0, none⟩)]] w fun e w' => ∃ g2 c2, e = .returned (.slice (some ⟨g2, 0, none⟩) n c2) ∧ Ext w w' ∧ w.heap.size ≤ g2 ∧ ∃ L : List Nat, L.length = n ∧ Asc L ∧ (∀ v, v ∈ L ↔ v ∈ zs) ∧ Row w' g2 25 1 u32C L := by
  have HC := Lib.hid (collect_any Bs b cap n zs hn hn1 hlen w hBs hcB hR)
  have HS := Lib.hid hS
  have HN := Lib.hid hn
  clear hcB hR hS hn
  go_enter Try.func55, Try.ntmps55
  go_wp2_with fail
  go_at_call 60
  refine HC.out.mono ?_
  rintro e w1 ⟨g2, c2, rfl, hX, hg2, hR2, hc2⟩
  have HSS := Lib.hid (HS.out g2 c2 zs w1 HN.out hR2)
  have HX := Lib.hid hX
  clear hX hR2 HC
  go_wp2_with fail
  go_at_call 61
  refine HSS.out.mono ?_
  rintro e w2 ⟨rfl, hK, L, hL, hA, hM, hR⟩
  have HK := Lib.hid hK
  have HL := Lib.hid (show L.length = n ∧ Asc L ∧ (∀ v, v ∈ L ↔ v ∈ zs) ∧ Row w2 g2 25 1 u32C L from ⟨hL, hA, hM, hR⟩)
  clear hK hL hA hM hR HSS
  go_wp2
  go_ret
  exact ⟨g2, c2, rfl, Ext.trans' HX.out HK.out (by simp; exact hg2), hg2, L, HL.out⟩

set_option maxHeartbeats 400000 in
theorem sized_any (N : Nat) (hN1 : 1 ≤ N) (hN : N ≤ 2147483647) (w : World) : Calls Try.prog 32 #[.int .u32 N] w fun e w' => e = .returned (.bool true) ∧ w' = w := by
  have h1 : (1 : Int) ≤ (N : Int) := by omega
  have h2 : (N : Int) ≤ 2147483647 := by omega
  go_enter Try.func32, Try.ntmps32
  go_wp2
  go_ret
  exact ⟨rfl, rfl⟩
set_option maxHeartbeats 2000000 in
/-- spreading, from sources that it takes. -/
theorem spreading_any {m : Nat} (hS : SortOK m) (N : Nat) (hN1 : 1 ≤ N) (hN : N ≤ 2147483647) (zs : List Nat) (hm : zs.length = m) (hm1 : 1 ≤ m) (hm4 : m ≤ 64) (hz : ∀ z ∈ zs, z < N) (g c : Nat) (w : World) (hR : Row w g 25 1 u32C zs) :
    Calls Try.prog 41 #[.int .u32 N, .slice (some ⟨g, 0, none⟩) m c] w fun e w' => ∃ sp gs cs, e = .returned (.tuple #[.pointer (some ⟨sp, 0, none⟩), .int .i64 0]) ∧ Ext w w' ∧ w.heap.size ≤ sp ∧ w.heap.size ≤ gs ∧
      w'.heap[sp]? = some (.cells #[.slice (some ⟨gs, 0, none⟩) m cs] 131 (0, 0)) ∧ ∃ L : List Nat, L.length = m ∧ Asc L ∧ (∀ v, v ∈ L ↔ v ∈ zs) ∧ Row w' gs 25 1 u32C L := by
  have h1 : (1 : Int) ≤ (N : Int) := by omega
  have h2 : (N : Int) ≤ 2147483647 := by omega
  have h3 : ¬ (m : Int) < 1 := by omega
  have h4 : ¬ (64 : Int) < (m : Int) := by omega
  have HZ := Lib.hid hz
  have HMX := Lib.hid (max_any zs m hm hm1 (by omega) g c w hR)
  have hR2 := hR.ext (Ext.alloc w (.cells #[.slice (some ⟨g, 0, none⟩) m c] 70))
  have hc2 : (w.alloc (.cells #[.slice (some ⟨g, 0, none⟩) m c] 70)).cell? ⟨w.heap.size, 0, none⟩ = some (.slice (some ⟨g, 0, none⟩) m c) := cell_of_row _ _ 0 _ _ _ (heap_alloc_new w _)
  have HSO := Lib.hid (sorted_any hS w.heap.size g c zs hm hm1 (by omega) (w.alloc (.cells #[.slice (some ⟨g, 0, none⟩) m c] 70)) (by simp) hc2 hR2)
  clear hR hR2 hc2 hS hz
  go_enter Try.func41, Try.ntmps41
  have HSZ := Lib.hid (sized_any N hN1 hN w)
  go_wp2_with fail
  go_at_call 32
  refine HSZ.out.mono ?_
  rintro e w' ⟨rfl, rfl⟩
  go_wp2_with fail
  go_at_call 54
  refine HMX.out.mono ?_
  rintro e w' ⟨x, ⟨rfl, hx⟩, rfl⟩
  have hxN : ¬ (N : Int) ≤ (x : Int) := by have := HZ.out x hx; omega
  clear hx
  go_wp2_with fail
  go_at_call 56
  refine (values_any _ _ _ _).mono ?_
  rintro e w1 ⟨rfl, rfl⟩
  go_wp2_with fail
  go_at_call 55
  refine HSO.out.mono ?_
  rintro e w2 ⟨g2, c2, rfl, hX, hg2, L, hL, hA, hM, hR⟩
  have hXw := Ext.trans (Ext.alloc w' (.cells #[.slice (some ⟨g, 0, none⟩) m c] 70)) hX
  have HX := Lib.hid hXw
  have HR := Lib.hid hR
  have HL := Lib.hid (And.intro hL (And.intro hA hM))
  have hg3 : w'.heap.size ≤ g2 := by simp at hg2; omega
  clear hX hg2 hL hA hM hR hXw HSO HMX
  go_wp2
  go_ret2
  refine ⟨w2.heap.size, g2, c2, rfl, Ext.trans HX.out (Ext.alloc _ _), HX.out.size, hg3, heap_alloc_new w2 _, L, HL.out.1, HL.out.2.1, HL.out.2.2, HR.out.ext (Ext.alloc _ _)⟩
end Go.Proofs.Ytalpjipopipncaa
