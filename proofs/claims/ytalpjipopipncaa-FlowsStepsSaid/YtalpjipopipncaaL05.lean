/- The walk of the law FlowsWays. Conditions: those of law5_any. -/
import Derived.Test.YtalpjipopipncaaRsn
namespace Go.Proofs.Ytalpjipopipncaa
open Go Go.RowKit

/-- The kind that a law asks for. -/
def kindN (kd : Int) : Nat := (min (max kd 1) 2).toNat
theorem kindN_or (kd : Int) : kindN kd = 1 ∨ kindN kd = 2 := by unfold kindN; omega

set_option maxHeartbeats 400000 in
theorem negative_any (s : St) (w : World) : Calls Try.prog 22 #[.agg (stC s)] w fun e w' => e = .returned (.bool (s 1 == 1)) ∧ Ext w w' := by
  unfold stC
  go_enter Try.func22, Try.ntmps22
  go_wp2
  go_ret
  exact ⟨rfl, Ext.alloc _ _⟩

set_option maxRecDepth 20000 in
set_option maxHeartbeats 1000000 in
theorem law5_any (N : Int) (ao : Option Addr) (cap : Nat) (E : List Edg) (src : Nat) (hsrc : src < 4294967296) (kd : Int) (hlen : E.length ≤ 11728124029269) (hE : ∀ e ∈ E, e.s < 4294967296 ∧ e.d < 4294967296 ∧ e.w < 4294967296) (K KK : Nat) (neg : Bool)
    (hJ : WaysOK (listE (sizeN N) (kindN kd) E) (sizeN N) (src % sizeN N) (kindF (kindN kd)) K KK neg) (w : World) (he : EdgesIn w ao E) :
    Calls Try.prog 5 #[.agg #[.int .i64 N, .slice ao E.length cap], .int .u32 src, .int .i64 kd] w fun e w' => e = .returned (.bool true) ∧ Ext w w' := by
  have HE := Lib.hid he
  have HED := Lib.hid hE
  have HJ := Lib.hid hJ
  have HKOR := Lib.hid (kindN_or kd)
  have hn1 := sizeN_pos N
  have hn4 := sizeN_le N
  have hsl : src % sizeN N < sizeN N := Nat.mod_lt _ hn1
  have hss : (src : Int) % ((sizeN N : Nat) : Int) = ((src % sizeN N : Nat) : Int) := by omega
  have hkn : ((kindN kd : Nat) : Int) = min (max kd 1) 2 := by unfold kindN; omega
  have hnz : ¬ sizeN N = 0 := by omega
  have HKN := Lib.hid hkn
  have HSS := Lib.hid hss
  clear he hE hJ hkn hss
  generalize src % sizeN N = s at *
  go_enter Try.func5, Try.ntmps5
  go_upto_region 4 with (go_at_call 10; refine (size_any N _ rfl _).mono ?_; rintro e w1 ⟨rfl, hX1⟩; have H1 := Lib.hid hX1; have hg1 := hX1.heap (heap_alloc_new w _); have gc0 := cell_of_row w1 w.heap.size 0 _ _ _ hg1; have gc1 := cell_of_row w1 w.heap.size 1 _ _ _ hg1; have hgl1 := (Array.getElem?_eq_some_iff.1 hg1).1; clear hX1 hg1)
  have hkk : (if 2 < if kd < 1 then 1 else kd then (2 : Int) else if kd < 1 then 1 else kd) = ((kindN kd : Nat) : Int) := by
    rw [HKN.out]; split <;> split at * <;> omega
  rw [hkk, HSS.out]
  clear hkk HSS HKN
  generalize (if kd < 1 then (1 : Int) else kd) = k25
  go_upto_region 5 with (go_at_call 11; refine (list_any N ao cap E (kindN kd : Nat) hlen HED.out _ (HE.out.ext (Ext.trans (Ext.alloc _ _) H1.out))).mono ?_; rintro e w2 ⟨bo, c2, rfl, hX2, hE2, hbo⟩)
  have hX2' := Ext.trans (Ext.trans (Ext.alloc w (.cells #[.int .i64 N, .slice ao E.length cap] 24)) H1.out) hX2
  have hl := listE_length (sizeN N) (kindN kd : Nat) E
  have hE' : ∀ e ∈ listE (sizeN N) (kindN kd : Nat) E, e.s < sizeN N ∧ e.d < sizeN N ∧ e.w < 4294967296 := fun e he => by
    obtain ⟨x, hx, rfl⟩ := List.mem_map.1 he
    refine ⟨Nat.mod_lt _ hn1, Nat.mod_lt _ hn1, ?_⟩
    have := (HED.out x hx).2.2
    dsimp only
    split <;> omega
  have hws : w.heap.size ≤ w2.heap.size := hX2'.size
  generalize listE (sizeN N) (kindN kd : Nat) E = F at *
  generalize kindN kd = kn at *
  generalize sizeN N = n at *
  have HXw := Lib.hid hX2'
  have HF2 := Lib.hid hE2
  have HBO := Lib.hid hbo
  have HED' := Lib.hid hE'
  have HL := Lib.hid hl
  clear hX2' hE2 hbo hE' hX2 H1 gc0 gc1 hgl1 HED HE
  go_upto_region 6 with (go_at_call 20; refine (sssp_any n s kn hn1 (by omega) hsl HKOR.out w2).mono ?_; rintro e w3 ⟨rfl, hX3, hs3, hq3, hb3⟩)
  have hF := flowAt_ways (N := w2.heap.size + 2) (kindF_or kn) (by omega) hq3 hb3 (by omega) (by omega)
  have hcp := play_any (ap := ⟨w2.heap.size + 1, 0, none⟩) hF (sinkOK_ways n s (kindF kn)) (sane_ways n s (kindF kn)) n hn1 hn4 bo c2 F (by rw [hl]; omega) HED'.out ((n : Int) + 1) (by omega) K HJ.out.plays w3 ((Ext.refl _).below.mono (by omega)) (by omega) (HF2.out.ext hX3) (fun ge h => by have := (HBO.out ge h).2; omega)
  rw [hl] at hcp
  have hcb := fun w' (h : Below (w2.heap.size + 2) w3 w') => hF.both w' h
  have HCP := Lib.hid hcp
  have HCB := Lib.hid hcb
  have HX3 := Lib.hid hX3
  clear hcp hcb hF hq3 hb3 hX3
  go_upto_region 7 with (first | (go_at_call 13; refine HCP.out.mono ?_; rintro e w4 ⟨g, c, rfl, hX4, hg, hRow⟩) | (refine wpList_store_at rfl 39 _ _ rfl rfl rfl (At.new (runC (.slice none 0 0) zeroS zeroS 0 0) 39 rfl) i39 rfl (runC_one g n c _ _ _ _) ?_))
  have hJ := HJ.out
  have hls := iterR_length (waysP n s (kindF kn)) F n (K + 1)
  have hX3 : Ext w2 w4 := Ext.trans HX3.out hX4
  have hB4 := (hX4.below : Below _ _ _).mono (show w2.heap.size + 2 ≤ _ by omega)
  have hws4 : w2.heap.size + 2 ≤ w4.heap.size := by have := hX4.size; omega
  have hre : neg = false → Reasons (iterR (waysP n s (kindF kn)) F (startR (waysP n s (kindF kn)) n) (K + 1)).S F n s (kindF kn) := fun h => by
    subst h
    exact ways_reasons (fun x hx => ⟨(HED'.out x hx).1, (HED'.out x hx).2.1⟩) hn4 hsl hJ
  have hag0 := hJ.agg0
  have hag1 := hJ.agg1
  have hw1 := hJ.w1
  have hw0 : neg = false → ∀ v, v < n → (iterR (waysP n s (kindF kn)) F (startR (waysP n s (kindF kn)) n) (K + 1)).S.getD v zeroS 0 = IntKind.u64.wrap (bfD (kindF kn) F s (KK + 1) v) := fun h v hv => by
    have h1 := (bell_bfD (kindF kn) F s).le KK v
    have h2 := hJ.rest h v hv
    rw [hJ.w0 h v hv, show bfD (kindF kn) F s (KK + 1) v = bfD (kindF kn) F s KK v by omega]
  generalize iterR (waysP n s (kindF kn)) F (startR (waysP n s (kindF kn)) n) (K + 1) = r at *
  have hP3 := keep_wput (w4.alloc (.cells (runC (.slice none 0 0) zeroS zeroS 0 0) 39)) w4.heap.size 0 (runC (.slice (some ⟨g, 0, none⟩) n c) r.agg r.ctl r.rounds r.up)
  have hEV := Ext.trans' (Ext.alloc w4 (.cells (runC (.slice none 0 0) zeroS zeroS 0 0) 39)) hP3 (by simp)
  have hRV : RunAt (wput (w4.alloc (.cells (runC (.slice none 0 0) zeroS zeroS 0 0) 39)) w4.heap.size 0 (runC (.slice (some ⟨g, 0, none⟩) n c) r.agg r.ctl r.rounds r.up)) w4.heap.size (.slice (some ⟨g, 0, none⟩) n c) r.agg r.ctl r.rounds r.up := by
    unfold RunAt
    rw [wput_heap (heap_alloc_new w4 _)]
    simp [runC, spl]
  change Code.wp _ _ _ _ (wput (w4.alloc (.cells (runC (.slice none 0 0) zeroS zeroS 0 0) 39)) w4.heap.size 0 (runC (.slice (some ⟨g, 0, none⟩) n c) r.agg r.ctl r.rounds r.up))
  generalize wput (w4.alloc (.cells (runC (.slice none 0 0) zeroS zeroS 0 0) 39)) w4.heap.size 0 (runC (.slice (some ⟨g, 0, none⟩) n c) r.agg r.ctl r.rounds r.up) = V at *
  have hbV := hRV.lt
  have hcr := refSSSP_any n s kn hn1 hn4 hsl HKOR.out bo c2 F (by rw [HL.out]; omega) HED'.out KK hJ.kk hJ.on hJ.off V ((HF2.out.ext hX3).ext hEV)
  rw [HL.out, hJ.neg'] at hcr
  have HCR := Lib.hid hcr
  have HBV := Lib.hid (hB4.trans (hEV.below.mono hws4))
  have HRV := Lib.hid hRV
  have HRow := Lib.hid (hRow.ext hEV)
  have HFV := Lib.hid ((HF2.out.ext hX3).ext hEV)
  have HXV := Lib.hid (Ext.trans HXw.out (Ext.trans hX3 hEV))
  have HAG0 := Lib.hid hag0
  have HAG1 := Lib.hid hag1
  have HW1 := Lib.hid hw1
  have HW0 := Lib.hid hw0
  have HRE := Lib.hid hre
  have HLS := Lib.hid hls
  clear hcr hB4 hRV hRow hEV hX3 hX4 hP3 hag0 hag1 hw1 hw0 hre hls hJ HCP HF2 HBO HJ HXw HX3 hs3
  generalize w4.heap.size = B at *
  clear w4
  go_upto_region 8 with (go_at_call 21; refine HCR.out.mono ?_; rintro e w5 ⟨g5, rfl, hX5, hg5, hD5⟩)
  have HX5 := Lib.hid (Ext.trans HXV.out hX5)
  have HR5 := Lib.hid (HRV.out.ext hX5)
  have HRow5 := Lib.hid (HRow.out.ext hX5)
  have HF5 := Lib.hid (HFV.out.ext hX5)
  have HD5 := Lib.hid hD5
  have HB5 := Lib.hid (HBV.out.trans (hX5.below.mono (by have := hbV; omega)))
  have hgl5 : g5 < w5.heap.size := hD5.lt
  have hBl5 : B < w5.heap.size := by have := hX5.size; omega
  have hBw : w2.heap.size + 2 ≤ w5.heap.size := by have := hX5.size; omega
  have hwp : (waysP n s (kindF kn)).both = false := rfl
  clear hX5 hD5 HXV HRV HRow HFV HBV HCR
  go_upto_region 10 with (first | (go_at_call 15; refine (num_any _ _).mono ?_; rintro e w' ⟨rfl, rfl⟩) | (go_at_call 16; refine (HCB.out _ HB5.out).mono ?_; rintro e w6 ⟨rfl, hX6⟩))
  have HX6 := Lib.hid (Ext.trans HX5.out hX6)
  have HR6 := Lib.hid (HR5.out.ext hX6)
  have HRow6 := Lib.hid (HRow5.out.ext hX6)
  have HF6 := Lib.hid (HF5.out.ext hX6)
  have HD6 := Lib.hid (HD5.out.ext hX6)
  have hgl6 : g5 < w6.heap.size := by have := hX6.size; omega
  have hBl6 : B < w6.heap.size := by have := hX6.size; omega
  clear hX6 HX5 HR5 HRow5 HF5 HD5 HB5 HCB hwp hgl5 hBl5 hBw
  go_wp2
  go_loopg [17, 18] n (fun m q v wr => ∃ k : Nat, k + m = n ∧ q = .int .u64 (rchT r.S k) ∧ v = .int .i64 k ∧ Ext w6 wr)
  case atStart => exact ⟨0, by omega, rfl, rfl, Ext.refl _⟩
  case round =>
    obtain ⟨k, hk, rfl, rfl, hX⟩ := hrel
    have hRr := HR6.out.ext hX
    have c0 := hRr.c0
    have hBr := hRr.lt
    by_cases hlt : k < n
    · have hkk : (k : Int) < (n : Int) := by omega
      have hkS : k < r.S.length := by rw [HLS.out]; exact hlt
      have hAk := (HRow6.out.ext hX).at stC_size hkS
      have hgk := hAk.lt
      have hgd : r.S.getD k zeroS = r.S[k] := by simp [List.getD_eq_getElem?_getD, List.getElem?_eq_getElem hkS]
      have hw := HW1.out k hlt
      have e0 : wr.cell? ⟨g, k * 8, none⟩ = some (.int .u64 (r.S[k] 0)) := by simpa using (HRow6.out.ext hX).cell hkS (j := 0) (by omega) (v := .int .u64 (r.S[k] 0)) rfl
      have hrs : rchT r.S (k + 1) = if r.S.getD k zeroS 0 = ENDL then rchT r.S k else u64p (rchT r.S k) := rfl
      rw [hgd] at hw hrs
      generalize r.S[k] = x at *
      have hng : (x 1 == 1) = neg := by rw [hw]; cases neg <;> rfl
      have hcn := fun W => negative_any x W
      rw [hng] at hcn
      have HCN := Lib.hid hcn
      have HAk := Lib.hid hAk
      have HX := Lib.hid hX
      clear hcn hAk hgd hw hng hX hRr
      by_cases hxe : x 0 = ENDL
      · rw [if_pos hxe] at hrs
        have hxe2 : (x 0 != 9223372036854775807) = false := by simpa using show x 0 = 9223372036854775807 from hxe
        have HRS := Lib.hid hrs
        clear hrs hxe
        go_wp2_with (refine wpList_load_at rfl 35 _ rfl _ rfl HAk.out Try.underlying35 rfl i35 ?_)
        go_at_call 22
        refine (HCN.out _).mono ?_
        rintro e w7 ⟨rfl, hX7⟩
        have e0' := hX7.cell e0
        have c0' := hX7.cell c0
        have HX7 := Lib.hid (Ext.trans HX.out hX7)
        have hB7 : B < w7.heap.size := by have := hX7.size; omega
        have hg7 : g < w7.heap.size := by have := hX7.size; omega
        clear hX7
        go_wp2
        go_roundg (gk - 1)
        case measure => omega
        case rel => exact ⟨k + 1, by omega, by rw [HRS.out], by go_num, HX7.out⟩
      · rw [if_neg hxe] at hrs
        have hxe2 : (x 0 != 9223372036854775807) = true := by simpa using show ¬ x 0 = 9223372036854775807 from hxe
        have HRS := Lib.hid hrs
        clear hrs hxe
        go_wp2_with (refine wpList_load_at rfl 35 _ rfl _ rfl HAk.out Try.underlying35 rfl i35 ?_)
        go_at_call 22
        refine (HCN.out _).mono ?_
        rintro e w7 ⟨rfl, hX7⟩
        have e0' := hX7.cell e0
        have c0' := hX7.cell c0
        have HX7 := Lib.hid (Ext.trans HX.out hX7)
        have hB7 : B < w7.heap.size := by have := hX7.size; omega
        have hg7 : g < w7.heap.size := by have := hX7.size; omega
        clear hX7
        go_wp2
        go_roundg (gk - 1)
        case measure => omega
        case rel => exact ⟨k + 1, by omega, by rw [HRS.out]; rfl, by go_num, HX7.out⟩
    · have hkn : n = k := by omega
      subst hkn
      have b1 : wr.cell? ⟨B, 1, none⟩ = some (.int .u64 (r.agg 0)) := cell_of_row wr B 1 _ _ _ hRr
      have b2 : wr.cell? ⟨B, 2, none⟩ = some (.int .u64 (r.agg 1)) := cell_of_row wr B 2 _ _ _ hRr
      rw [HAG0.out] at b1
      rw [HAG1.out] at b2
      have HX := Lib.hid (Ext.trans HX6.out hX)
      have HRr := Lib.hid hRr
      have HRow7 := Lib.hid (HRow6.out.ext hX)
      have HF7 := Lib.hid (HF6.out.ext hX)
      have HD7 := Lib.hid (HD6.out.ext hX)
      clear hX hRr HX6 HR6 HRow6 HF6 HD6 HAG0 HAG1 HW1
      cases neg with
      | true =>
        simp only [if_true] at b2
        go_wp2
        go_ret
        exact ⟨rfl, HX.out⟩
      | false =>
        simp only [Bool.false_eq_true, if_false] at b2
        have hwe : r.S.map (fun s => s 0) = (List.range n).map (fun v => IntKind.u64.wrap (bfD (kindF kn) F s (KK + 1) v)) := by
          refine List.ext_getElem (by simpa using HLS.out) fun i h1 h2 => ?_
          have hi : i < r.S.length := by simpa using h1
          have := HW0.out rfl i (by have := HLS.out; omega)
          rw [show r.S.getD i zeroS = r.S[i] by simp [List.getD_eq_getElem?_getD, List.getElem?_eq_getElem hi]] at this
          simpa using this
        have hD8 : ∀ w', Ext wr w' → Row w' g5 33 1 wdC (r.S.map (fun s => s 0)) := fun w' h => by
          rw [hwe]
          exact HD7.out.ext h
        have hrs : ∀ w', Ext wr w' → Calls Try.prog 23 #[.agg (runC (.slice (some ⟨g, 0, none⟩) n c) r.agg r.ctl r.rounds r.up), .int .u32 s, .int .i64 kn, .slice bo E.length c2] w' fun e w'' => e = .returned (.bool true) ∧ Ext w' w'' := fun w' h => by
          have := reasons_any r.S n HLS.out hn1 hn4 g c r.agg r.ctl r.rounds r.up s kn HKOR.out bo c2 F (by rw [HL.out]; omega) HED'.out (HRE.out rfl) w' (HRow7.out.ext h) (HF7.out.ext h)
          rwa [HL.out] at this
        have hwc : ∀ w', Row w' g 35 8 stC r.S → Calls Try.prog 18 #[.agg (runC (.slice (some ⟨g, 0, none⟩) n c) r.agg r.ctl r.rounds r.up), .int .i64 0] w' fun e w'' => ∃ g2 c2, e = .returned (.slice (some ⟨g2, 0, none⟩) n c2) ∧ Ext w' w'' ∧ Row w'' g2 33 1 wdC (r.S.map (fun s => s 0)) ∧ w'.heap.size ≤ g2 := fun w' h => word_any r.S n HLS.out hn1 hn4 g c r.agg r.ctl r.rounds r.up 0 (by omega) w' h
        have HWC := Lib.hid hwc
        have HD8 := Lib.hid hD8
        have HRS := Lib.hid hrs
        clear hwc hD8 hrs hwe HW0 HRE
        go_wp2_with (refine wpList_load_atG rfl 39 _ rfl _ rfl HRr.out.whole Try.underlying39 rfl i39 ?_)
        go_at_call 18
        refine (HWC.out _ HRow7.out).mono ?_
        rintro e w7 ⟨g7, c7, rfl, hX7, hr7, _⟩
        have HX7 := Lib.hid hX7
        have HR7 := Lib.hid hr7
        clear hX7 hr7
        go_wp2_with fail
        go_at_call 17
        refine (same_any (r.S.map (fun s => s 0)) n (by simp; exact HLS.out) hn4 g7 c7 g5 n _ HR7.out (HD8.out _ HX7.out)).mono ?_
        rintro e w8 ⟨rfl, hX8⟩
        have HX8 := Lib.hid (Ext.trans HX7.out hX8)
        clear hX8
        go_wp2_with (refine wpList_load_atG rfl 39 _ rfl _ rfl (HRr.out.ext HX8.out).whole Try.underlying39 rfl i39 ?_)
        go_at_call 23
        refine (HRS.out _ HX8.out).mono ?_
        rintro e w9 ⟨rfl, hX9⟩
        have HX9 := Lib.hid (Ext.trans HX8.out hX9)
        clear hX9
        go_wp2
        go_ret
        exact ⟨rfl, Ext.trans HX.out HX9.out⟩
end Go.Proofs.Ytalpjipopipncaa
