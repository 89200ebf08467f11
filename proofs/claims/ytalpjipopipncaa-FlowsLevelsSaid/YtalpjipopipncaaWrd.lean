/- The walks of a run's word and of same. Conditions: those of each theorem. -/
import Derived.Test.YtalpjipopipncaaLst
namespace Go.Proofs.Ytalpjipopipncaa
open Go Go.RowKit

def wdC (x : Int) : Array Value := #[.int .u64 x]
theorem wdC_size (x : Int) : (wdC x).size = 1 := rfl
theorem info33 : (Try.prog.info? 33).map (fun i => (i.zero, i.size, i.bytes)) = some (some (.int .u64 0), 1, 8) := by kernel_rfl

set_option maxRecDepth 20000 in
set_option maxHeartbeats 4000000 in
theorem word_any (S : List St) (n : Nat) (hn : S.length = n) (hn1 : 1 ≤ n) (hn4 : n ≤ 400) (g c : Nat) (agg ctl : St) (rounds up : Int) (j : Nat) (hj : j < 8) (w : World) (hR : Row w g 35 8 stC S) :
    Calls Try.prog 18 #[.agg (runC (.slice (some ⟨g, 0, none⟩) n c) agg ctl rounds up), .int .i64 j] w fun e w' => ∃ g2 c2, e = .returned (.slice (some ⟨g2, 0, none⟩) n c2) ∧ Ext w w' ∧ Row w' g2 33 1 wdC (S.map (fun s => s j)) ∧ w.heap.size ≤ g2 := by
  obtain ⟨i0, hi, hz0, hz1, hz2⟩ := info_parts info33
  have HI := Lib.hid hi
  have HZ0 := Lib.hid hz0
  have HZ1 := Lib.hid hz1
  have HZ2 := Lib.hid hz2
  have HR := Lib.hid hR
  have HNN := Lib.hid hn
  have hgl : g < w.heap.size := hR.lt
  clear hi hz0 hz1 hz2 hR hn
  unfold runC
  go_enter Try.func18, Try.ntmps18
  go_wp2
  have hRA : RunAt (w.alloc (.cells (runC (.slice (some ⟨g, 0, none⟩) n c) agg ctl rounds up) 39)) w.heap.size (.slice (some ⟨g, 0, none⟩) n c) agg ctl rounds up := heap_alloc_new w _
  have hXA : Ext w (w.alloc (.cells (runC (.slice (some ⟨g, 0, none⟩) n c) agg ctl rounds up) 39)) := Ext.alloc _ _
  have hsA : (w.alloc (.cells (runC (.slice (some ⟨g, 0, none⟩) n c) agg ctl rounds up) 39)).heap.size = w.heap.size + 1 := by simp
  change Code.wp _ _ _ _ (w.alloc (.cells (runC (.slice (some ⟨g, 0, none⟩) n c) agg ctl rounds up) 39))
  generalize w.alloc (.cells (runC (.slice (some ⟨g, 0, none⟩) n c) agg ctl rounds up) 39) = W at *
  have HRA := Lib.hid hRA
  have HXA := Lib.hid hXA
  have hRow := HR.out.ext hXA
  have HRow := Lib.hid hRow
  clear hRA hXA HR hRow
  go_loopg [5, 6] n (fun m s v wr => ∃ k : Nat, k + m = n ∧ v = .int .i64 k ∧ Ext W wr ∧ wr.ownsRow W.heap.size 33 1 s k (flat wdC ((S.map (fun s => s j)).take k)))
  case atStart => exact ⟨0, by omega, rfl, Ext.refl _, World.ownsRow_nil _ _ _ _⟩
  case round =>
    obtain ⟨k, hk, rfl, hX, hOwn⟩ := hrel
    have hs0 : W.heap.size ≤ wr.heap.size := hX.size
    have hG := HRA.out.ext hX
    have g0 := hG.c0
    have hgl2 : w.heap.size < wr.heap.size := by omega
    by_cases hlt : k < n
    · have hkk : (k : Int) < (n : Int) := by omega
      have hkS : k < S.length := by rw [HNN.out]; exact hlt
      have hji : (j : Int) < 8 := by omega
      have e0 : wr.cell? ⟨g, k * 8 + j, none⟩ = some (.int .u64 (S[k] j)) := (HRow.out.ext hX).cell hkS hj (stC_get S[k] j hj)
      have hgl3 : g < wr.heap.size := by omega
      have htk : (S.map (fun s => s j)).take (k + 1) = (S.map (fun s => s j)).take k ++ [S[k] j] := by
        rw [List.take_succ_eq_append_getElem (by simpa using hkS)]
        simp
      generalize S[k] j = x at *
      have hOA : (wr.alloc (.cells #[.int .u64 x] 33)).ownsRow W.heap.size 33 1 u5 k (flat wdC ((S.map (fun s => s j)).take k)) := ownsRow_keep hOwn (Ext.alloc _ _) (by simp)
      have hNA : At (wr.alloc (.cells #[.int .u64 x] 33)) wr.heap.size 0 (wdC x) := At.new (wdC x) 33 rfl
      have hsB : W.heap.size ≤ (wr.alloc (.cells #[.int .u64 x] 33)).heap.size := by simp; omega
      have hXB := Ext.trans hX (Ext.alloc wr (.cells #[.int .u64 x] 33))
      have HOA := Lib.hid hOA
      have HNA := Lib.hid hNA
      have HXB := Lib.hid hXB
      have HTK := Lib.hid htk
      clear hOA hNA hXB htk hX hOwn hG
      go_wp2_with (at_builtin; refine wpList_append_own _ rfl (.tmp 14) (.tmp 22) 42 rfl W.heap.size 33 i0 (.int .u64 0) 1 8 Try.underlying42 HI.out HZ0.out HZ1.out HZ2.out rfl (by omega) u5 k (flat wdC ((S.map (fun s => s j)).take k)) rfl HOA.out ⟨wr.heap.size, 0, none⟩ 1 1 (wdC x).toList rfl rfl ?c1 ?c2 ?c3 ?c4 hsB ?c6)
      case c1 =>
        intro j' u hu
        rw [add_at]
        exact HNA.out.cell (by simpa using hu)
      case c2 =>
        intro u hu
        simp [wdC] at hu
        subst hu
        simp [Value.oneCell']
      case c3 => simp only [maxLen]; omega
      case c4 => omega
      case c6 =>
        intro v' w5 hown5 hgr5 hnil
        clear hnil
        have hob : ∀ j, u5.ownBlock = some j → W.heap.size ≤ j ∧ j < (wr.alloc (.cells #[.int .u64 x] 33)).heap.size := HOA.out.lt
        have hX5 : Ext W w5 := Keep.grown HXB.out hgr5 (fun j hj => .inr (hob j hj).1)
        have hO5 : w5.ownsRow W.heap.size 33 1 v' (k + 1) (flat wdC ((S.map (fun s => s j)).take (k + 1))) := by
          rw [HTK.out, flat_append]
          simpa [flat, hsA] using hown5
        have HX5 := Lib.hid hX5
        have HO5 := Lib.hid hO5
        clear hown5 hgr5 hob hX5 hO5 HOA HNA HXB hsB
        go_wp2
        go_roundg (gk - 1)
        case measure => omega
        case rel => exact ⟨k + 1, by omega, by go_num, HX5.out, HO5.out⟩
    · have hkE : k = n := by omega
      subst hkE
      have htk : (S.map (fun s => s j)).take k = S.map (fun s => s j) := List.take_of_length_le (by simp; have := HNN.out; omega)
      rw [htk] at hOwn
      obtain ⟨g2, c2, hv, hr, hg2⟩ : ∃ g2 c2, u5 = .slice (some ⟨g2, 0, none⟩) k c2 ∧ Row wr g2 33 1 wdC (S.map (fun s => s j)) ∧ W.heap.size ≤ g2 := by
        have hO := hOwn
        obtain ⟨_, h2⟩ := hO
        rcases h2 with ⟨hv, h0⟩ | ⟨g2, c2, cur, hv, hg, hgh, hgc⟩
        · omega
        · exact ⟨g2, c2, hv, Row.of_own (cap := c2) wdC_size (by rw [← hv]; exact hOwn) (by simp; exact HNN.out.symm), hg⟩
      subst hv
      have HX := Lib.hid hX
      have HR2 := Lib.hid hr
      clear hX hr hOwn htk hG
      go_wp2
      go_ret
      exact ⟨g2, c2, rfl, Ext.trans HXA.out HX.out, HR2.out, by omega⟩

set_option maxHeartbeats 2000000 in
theorem same_any (A : List Int) (n : Nat) (hn : A.length = n) (hn4 : n ≤ 400) (g1 c1 g2 c2 : Nat) (w : World) (h1 : Row w g1 33 1 wdC A) (h2 : Row w g2 33 1 wdC A) :
    Calls Try.prog 17 #[.slice (some ⟨g1, 0, none⟩) n c1, .slice (some ⟨g2, 0, none⟩) n c2] w fun e w' => e = .returned (.bool true) ∧ Ext w w' := by
  have H1 := Lib.hid h1
  have H2 := Lib.hid h2
  have hg1 : g1 < w.heap.size := h1.lt
  have hg2 : g2 < w.heap.size := h2.lt
  clear h1 h2
  go_enter Try.func17, Try.ntmps17
  go_wp2
  go_loopg [5] n (fun m v wr => ∃ k : Nat, k + m = n ∧ v = .int .i64 k ∧ Ext w wr)
  case atStart => exact ⟨0, by omega, rfl, Ext.refl _⟩
  case round =>
    obtain ⟨k, hk, rfl, hX⟩ := hrel
    have hs0 : w.heap.size ≤ wr.heap.size := hX.size
    by_cases hlt : k < n
    · have hkk : (k : Int) < (n : Int) := by omega
      have e1 : wr.cell? ⟨g1, k, none⟩ = some (.int .u64 (A[k]'(by omega))) := by
        have := (H1.out.ext hX).cell (show k < A.length by omega) (j := 0) (by omega) (v := .int .u64 (A[k]'(by omega))) rfl
        simpa using this
      have e2 : wr.cell? ⟨g2, k, none⟩ = some (.int .u64 (A[k]'(by omega))) := by
        have := (H2.out.ext hX).cell (show k < A.length by omega) (j := 0) (by omega) (v := .int .u64 (A[k]'(by omega))) rfl
        simpa using this
      have hg1' : g1 < wr.heap.size := by omega
      have hg2' : g2 < wr.heap.size := by omega
      generalize A[k]'(by omega) = x at *
      have HX := Lib.hid hX
      clear hX
      go_upto_region 6 with fail
      refine wp_region_row 9 0 (by kernel_rfl) (by kernel_rfl) ?_
      simp only [List.take, List.drop]
      iterate 9 (refine wpHead_step (fun K hK => ?_); go_simp; (refine hK _ ?_; clear hK K))
      refine wpHead_nil (wpPure_nil ?_)
      intro w2 hw2
      refine wpList_nil (nOnly_mk ?_)
      have HX2 := Lib.hid (Ext.trans HX.out (Ext.trans (Ext.drew wr) hw2))
      clear hw2
      go_wp2
      go_roundg (gk - 1)
      case measure => omega
      case rel => exact ⟨k + 1, by omega, by go_num, HX2.out⟩
    · have hkE : k = n := by omega
      subst hkE
      have HX := Lib.hid hX
      clear hX
      go_wp2
      go_ret
      exact ⟨rfl, HX.out⟩
end Go.Proofs.Ytalpjipopipncaa
