/- The walk of the law FlowsLevels. Conditions: those of law7_any. -/
import Derived.Test.YtalpjipopipncaaSp3
import Derived.Test.YtalpjipopipncaaRb4
namespace Go.Proofs.Ytalpjipopipncaa
open Go Go.RowKit

theorem rowF_wd {w : World} {g n : Nat} {S : List St} {j : Nat} {L : Nat → Int} (h : RowF w g 33 u64V L n) (hS : S.length = n) (hj : ∀ v, v < n → S.getD v zeroS j = L v) : Row w g 33 1 wdC (S.map (fun s => s j)) := by
  have e : (List.range n).map L = S.map (fun s => s j) := by
    refine List.ext_getElem (by simp [hS]) (fun i h1 h2 => ?_)
    have hi : i < n := by simpa using h1
    have := hj i hi
    rw [List.getD_eq_getElem?_getD, List.getElem?_eq_getElem (by omega)] at this
    simpa using this.symm
  have h2 : Row w g 33 1 wdC ((List.range n).map L) := h
  rwa [e] at h2

set_option maxRecDepth 20000 in
set_option maxHeartbeats 4000000 in
theorem law7_any (N : Int) (ao : Option Addr) (cap : Nat) (E : List Edg) (src : Nat) (hsrc : src < 4294967296) (hlen : E.length ≤ 11728124029269) (hE : ∀ e ∈ E, e.s < 4294967296 ∧ e.d < 4294967296 ∧ e.w < 4294967296) (K : Nat)
    (hJ : SpreadOK (listE (sizeN N) 1 E) (sizeN N) [src % sizeN N] false K) (w : World) (he : EdgesIn w ao E) :
    Calls Try.prog 7 #[.agg #[.int .i64 N, .slice ao E.length cap], .int .u32 src] w fun e w' => e = .returned (.bool true) ∧ Ext w w' := by
  have HE := Lib.hid he
  have HED := Lib.hid hE
  have HJ := Lib.hid hJ
  have hn1 := sizeN_pos N
  have hn4 := sizeN_le N
  have hsl : src % sizeN N < sizeN N := Nat.mod_lt _ hn1
  have hss : (src : Int) % ((sizeN N : Nat) : Int) = ((src % sizeN N : Nat) : Int) := by omega
  have hnz : ¬ sizeN N = 0 := by omega
  clear he hE hJ
  generalize src % sizeN N = s at *
  go_enter Try.func7, Try.ntmps7
  go_upto_region 2 with (go_at_call 10; refine (size_any N _ rfl _).mono ?_; rintro e w1 ⟨rfl, hX1⟩; have H1 := Lib.hid hX1; have hg1 := hX1.heap (heap_alloc_new w _); have gc0 := cell_of_row w1 w.heap.size 0 _ _ _ hg1; have gc1 := cell_of_row w1 w.heap.size 1 _ _ _ hg1; have hgl1 := (Array.getElem?_eq_some_iff.1 hg1).1; clear hX1 hg1)
  go_upto_region 3 with (go_at_call 11; refine (list_any N ao cap E 1 hlen HED.out _ (HE.out.ext (Ext.trans (Ext.alloc _ _) H1.out))).mono ?_; rintro e w2 ⟨bo, c2, rfl, hX2, hE2, hbo⟩)
  have hX2' := Ext.trans (Ext.trans (Ext.alloc w (.cells #[.int .i64 N, .slice ao E.length cap] 24)) H1.out) hX2
  have hl := listE_length (sizeN N) 1 E
  have hE' : ∀ e ∈ listE (sizeN N) 1 E, e.s < sizeN N ∧ e.d < sizeN N ∧ e.w < 4294967296 := fun e he => by
    obtain ⟨x, hx, rfl⟩ := List.mem_map.1 he
    refine ⟨Nat.mod_lt _ hn1, Nat.mod_lt _ hn1, ?_⟩
    have := (HED.out x hx).2.2
    dsimp only
    split <;> omega
  have hws : w.heap.size ≤ w2.heap.size := hX2'.size
  generalize listE (sizeN N) 1 E = F at *
  generalize sizeN N = n at *
  have HXw := Lib.hid hX2'
  have HF2 := Lib.hid hE2
  have HBO := Lib.hid hbo
  have HED' := Lib.hid hE'
  have HL := Lib.hid hl
  clear hX2' hE2 hbo hE' hX2 H1 gc0 gc1 hgl1 HED HE
  go_upto_region 4 with (go_at_call 27; refine (bfs_any n s hn1 (by omega) hsl w2).mono ?_; rintro e w3 ⟨bb, sp, gs, cs, bq, rfl, hX3, hbs3, hsp3, hgs3, hbq3, hbb3⟩)
  have hF := flowAt_bfs (srcs := [s]) (L := [s]) (n := 1) (N := w3.heap.size) (fun _ => Iff.rfl) rfl (by omega) (fun i j hi hj => by
    obtain rfl : i = 0 := by simp at hj; omega
    obtain rfl : j = 0 := by simpa using hj
    exact Nat.le_refl _) hsp3 hgs3 hbq3 hbb3 (Array.getElem?_eq_some_iff.1 hsp3).1 hgs3.lt (Array.getElem?_eq_some_iff.1 hbq3).1 (Array.getElem?_eq_some_iff.1 hbb3).1
  have hcp := play_any (ap := ⟨bb, 0, none⟩) hF (sinkOK_spread [s] false) (.inr (.inl ⟨rfl, rfl, rfl, rfl, rfl⟩)) n hn1 hn4 bo c2 F (by rw [hl]; omega) HED'.out (n : Int) (by omega) K HJ.out.plays w3 ((Ext.refl _).below.mono (by omega)) (by omega) (HF2.out.ext hX3) (fun ge h => by have := (HBO.out ge h).2; have := hX3.size; omega)
  rw [hl] at hcp
  have hcb := fun w' (h : Below w3.heap.size w3 w') => hF.both w' h
  have HCP := Lib.hid hcp
  have HCB := Lib.hid hcb
  have HX3 := Lib.hid hX3
  clear hcp hcb hF hsp3 hgs3 hbq3 hbb3 hX3 hbs3
  go_upto_region 5 with (first | (go_at_call 13; refine HCP.out.mono ?_; rintro e w4 ⟨g, c, rfl, hX4, hg, hRow⟩) | (refine wpList_store_at rfl 39 _ _ rfl rfl rfl (At.new (runC (.slice none 0 0) zeroS zeroS 0 0) 39 rfl) i39 rfl (runC_one g n c _ _ _ _) ?_))
  have hJ := HJ.out
  have hls := iterR_length (spreadP [s] false) F n (K + 1)
  have hX3 : Ext w2 w4 := Ext.trans HX3.out hX4
  have hfi := hJ.fin
  have hag0 := hJ.agg0
  have hag1 := hJ.agg1
  generalize iterR (spreadP [s] false) F (startR (spreadP [s] false) n) (K + 1) = r at *
  have hP3 := keep_wput (w4.alloc (.cells (runC (.slice none 0 0) zeroS zeroS 0 0) 39)) w4.heap.size 0 (runC (.slice (some ⟨g, 0, none⟩) n c) r.agg r.ctl r.rounds r.up)
  have hEV := Ext.trans' (Ext.alloc w4 (.cells (runC (.slice none 0 0) zeroS zeroS 0 0) 39)) hP3 (by simp)
  have hRV : RunAt (wput (w4.alloc (.cells (runC (.slice none 0 0) zeroS zeroS 0 0) 39)) w4.heap.size 0 (runC (.slice (some ⟨g, 0, none⟩) n c) r.agg r.ctl r.rounds r.up)) w4.heap.size (.slice (some ⟨g, 0, none⟩) n c) r.agg r.ctl r.rounds r.up := by
    unfold RunAt
    rw [wput_heap (heap_alloc_new w4 _)]
    simp [runC, spl]
  change Code.wp _ _ _ _ (wput (w4.alloc (.cells (runC (.slice none 0 0) zeroS zeroS 0 0) 39)) w4.heap.size 0 (runC (.slice (some ⟨g, 0, none⟩) n c) r.agg r.ctl r.rounds r.up))
  generalize wput (w4.alloc (.cells (runC (.slice none 0 0) zeroS zeroS 0 0) 39)) w4.heap.size 0 (runC (.slice (some ⟨g, 0, none⟩) n c) r.agg r.ctl r.rounds r.up) = V at *
  have hbV := hRV.lt
  have HRV := Lib.hid hRV
  have HRow := Lib.hid (hRow.ext hEV)
  have HFV := Lib.hid ((HF2.out.ext hX3).ext hEV)
  have HXV := Lib.hid (Ext.trans HXw.out (Ext.trans hX3 hEV))
  have HFI := Lib.hid hfi
  have HLS := Lib.hid hls
  have HAG0 := Lib.hid hag0
  have HAG1 := Lib.hid hag1
  have HB4 := Lib.hid ((hX4.below : Below _ _ _).trans (hEV.below.mono hX4.size))
  have hb34 : w3.heap.size ≤ w4.heap.size := hX4.size
  have hgV : g < V.heap.size := by have := HRow.out.lt; exact this
  have hbs : w.heap.size ≤ w4.heap.size := by have := (Ext.trans HXw.out hX3).size; exact this
  clear hRV hRow hEV hX3 hX4 hP3 hfi hls hag0 hag1 hJ HCP HF2 HBO HJ HXw HX3
  generalize w4.heap.size = B at *
  clear w4
  have hcr := refBFS_any n s hn1 hn4 hsl bo c2 F (by rw [HL.out]; omega) HED'.out (lvS r.S) (paS r.S) HFI.out V HFV.out
  rw [HL.out] at hcr
  have HCR := Lib.hid hcr
  clear hcr
  go_upto_region 6 with (go_at_call 28; refine HCR.out.mono ?_; rintro e w5 ⟨gL, gP, rfl, hX5, hL5, hP5⟩)
  have HX5 := Lib.hid (Ext.trans HXV.out hX5)
  have HR5 := Lib.hid (HRV.out.ext hX5)
  have HRow5 := Lib.hid (HRow.out.ext hX5)
  have HL5 := Lib.hid hL5
  have HW0 := Lib.hid (rowF_wd (S := r.S) (j := 0) hL5 HLS.out (fun v _ => rfl))
  have HW1 := Lib.hid (rowF_wd (S := r.S) (j := 1) hP5 HLS.out (fun v _ => rfl))
  have HB5 := Lib.hid (HB4.out.trans (hX5.below.mono (by have := hbV; omega)))
  have hBw : w3.heap.size ≤ w5.heap.size := by have := hX5.size; omega
  clear hX5 hL5 hP5 HXV HRV HRow HFV HB4 HCR
  have HWC := Lib.hid (fun (j : Nat) (hj : j < 8) (w' : World) (h : Row w' g 35 8 stC r.S) => word_any r.S n HLS.out hn1 hn4 g c r.agg r.ctl r.rounds r.up j hj w' h)
  have HLE := Lib.hid (fun (w' : World) (h : Ext w5 w') => levelled_any n hn4 r.agg (lvS r.S) (by rw [cntF_rch]; exact HAG0.out) (by rw [topF_max]; exact HAG1.out) gL n w' (HL5.out.ext h))
  have hbo : (spreadP [s] false).both = false := rfl
  have hml : (r.S.map (fun s => s 0)).length = n := by simp; exact HLS.out
  have hml1 : (r.S.map (fun s => s 1)).length = n := by simp; exact HLS.out
  have HML := Lib.hid hml
  have HML1 := Lib.hid hml1
  clear hml hml1
  go_wp2_with fail
  go_at_call 15
  refine (num_any _ _).mono ?_
  rintro e w' ⟨rfl, rfl⟩
  go_wp2_with fail
  go_at_call 16
  refine (HCB.out _ HB5.out).mono ?_
  rintro e w6 ⟨rfl, hX6⟩
  rw [hbo]
  have HX6 := Lib.hid hX6
  clear hX6
  go_wp2_with (refine wpList_load_atG rfl 39 _ rfl _ rfl (HR5.out.ext HX6.out).whole Try.underlying39 rfl i39 ?_)
  go_at_call 18
  refine (HWC.out 0 (by omega) _ (HRow5.out.ext HX6.out)).mono ?_
  rintro e w7 ⟨g7, c7, rfl, hX7, hr7, _⟩
  have HX7 := Lib.hid (Ext.trans HX6.out hX7)
  have HR7 := Lib.hid hr7
  clear hX7 hr7
  go_wp2_with fail
  go_at_call 17
  refine (same_any (r.S.map (fun s => s 0)) _ HML.out hn4 g7 c7 gL _ _ HR7.out (HW0.out.ext HX7.out)).mono ?_
  rintro e w8 ⟨rfl, hX8⟩
  have HX8 := Lib.hid (Ext.trans HX7.out hX8)
  clear hX8
  go_wp2_with (refine wpList_load_atG rfl 39 _ rfl _ rfl (HR5.out.ext HX8.out).whole Try.underlying39 rfl i39 ?_)
  go_at_call 18
  refine (HWC.out 1 (by omega) _ (HRow5.out.ext HX8.out)).mono ?_
  rintro e w9 ⟨g9, c9, rfl, hX9, hr9, _⟩
  have HX9 := Lib.hid (Ext.trans HX8.out hX9)
  have HR9 := Lib.hid hr9
  clear hX9 hr9
  go_wp2_with fail
  go_at_call 17
  refine (same_any (r.S.map (fun s => s 1)) _ HML1.out hn4 g9 c9 gP _ _ HR9.out (HW1.out.ext HX9.out)).mono ?_
  rintro e w10 ⟨rfl, hX10⟩
  have HX10 := Lib.hid (Ext.trans HX9.out hX10)
  clear hX10
  go_wp2_with (refine wpList_load_atG rfl 35 _ rfl _ rfl (HR5.out.ext HX10.out).aggAt Try.underlying35 rfl i35 ?_)
  go_at_call 29
  refine (HLE.out _ HX10.out).mono ?_
  rintro e w11 ⟨rfl, hX11⟩
  have HX11 := Lib.hid (Ext.trans HX10.out hX11)
  clear hX11
  go_wp2
  go_ret
  exact ⟨rfl, Ext.trans HX5.out HX11.out⟩
end Go.Proofs.Ytalpjipopipncaa
