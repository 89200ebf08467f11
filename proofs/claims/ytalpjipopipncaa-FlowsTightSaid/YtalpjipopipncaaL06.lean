/- The walk of the law FlowsTight. Conditions: those of law6_any. -/
import Derived.Test.YtalpjipopipncaaFls
import Derived.Test.YtalpjipopipncaaL05
namespace Go.Proofs.Ytalpjipopipncaa
open Go Go.RowKit

/-- No edge offers a shorter way, and the source is at 0. -/
structure TightS (S : List St) (E : List Edg) (s f : Nat) : Prop where
  edge : ∀ x ∈ E, S.getD x.s zeroS 0 ≠ ENDL → S.getD x.d zeroS 0 ≠ ENDL ∧ ¬ wrap64 (wrap64 (S.getD x.s zeroS 0) + wtI f x.w) < wrap64 (S.getD x.d zeroS 0)
  src : S.getD s zeroS 0 = 0
section
variable {E : List Edg} {n s f : Nat}
theorem ways_tight (hE : ∀ x ∈ E, x.s < n ∧ x.d < n) (hn : n ≤ 400) (hs : s < n) {K KK : Nat} (h : WaysOK E n s f K KK false) : TightS (iterR (waysP n s f) E (startR (waysP n s f) n) (K + 1)).S E s f := by
  have hbl := bell_bfD f E s
  have hw := wtI_bnd f
  have hr := h.rest rfl
  have hkk := h.kk
  have h0 := h.w0 rfl
  generalize (iterR (waysP n s f) E (startR (waysP n s f) n) (K + 1)).S = S at *
  have hen : ∀ v, v < n → (S.getD v zeroS 0 = ENDL ↔ bfD f E s KK v = ENDL) := fun v hv => by
    have hb := bf_i64 f E s KK v (by omega)
    rw [h0 v hv, u64_endl hb.1 hb.2]
  refine ⟨fun x hx hne => ?_, ?_⟩
  · obtain ⟨hxs, hxd⟩ := hE x hx
    have hn1 : bfD f E s KK x.s ≠ ENDL := fun hh => hne ((hen _ hxs).2 hh)
    have hb := (bf_bnd f E s KK x.s (by omega)).resolve_left hn1
    have hwb := hw x.w
    have hrl := hbl.relax hE hr x hx hn1
    have b1 := bf_i64 f E s KK x.s (by omega)
    have b2 := bf_i64 f E s KK x.d (by omega)
    refine ⟨fun hh => ?_, ?_⟩
    · have := (hen _ hxd).1 hh
      unfold ENDL at this
      omega
    · rw [h0 _ hxs, h0 _ hxd, w64_u64 b1.1 b1.2, w64_u64 b2.1 b2.2, w64_id (by omega) (by omega)]
      omega
  · rw [h0 s hs, hbl.src0 hw hE hr (by omega)]
    decide
theorem ways_neg (hE : ∀ x ∈ E, x.s < n ∧ x.d < n) (hs : s < n) {kn : Nat} (hk : kn = 1 ∨ kn = 2) {K KK : Nat} (h : WaysOK E n s (kindF kn) K KK true) : kn = 2 ∧ lastB 39 E s n = true := by
  have hl := h.last rfl
  rcases hk with rfl | rfl
  · have h1 := (bell_bfD (kindF 1) E s).plain_rest (n := n) (fun w => rfl) hE hs
    have h2 := (chB_rest (f := kindF 1) (s := s) hE KK).1 h.neg'
    rw [show KK = n - 1 by omega] at h2
    exact absurd h1 h2
  · refine ⟨rfl, ?_⟩
    have h3 := h.neg'
    rw [hl] at h3
    rw [← hl]
    rw [← hl] at h3
    exact h3
end

set_option maxRecDepth 20000 in
set_option maxHeartbeats 4000000 in
theorem law6_any (N : Int) (ao : Option Addr) (cap : Nat) (E : List Edg) (src : Nat) (hsrc : src < 4294967296) (kd : Int) (hlen : E.length ≤ 11728124029269) (hE : ∀ e ∈ E, e.s < 4294967296 ∧ e.d < 4294967296 ∧ e.w < 4294967296) (K KK : Nat) (neg : Bool)
    (hJ : WaysOK (listE (sizeN N) (kindN kd) E) (sizeN N) (src % sizeN N) (kindF (kindN kd)) K KK neg) (w : World) (he : EdgesIn w ao E) :
    Calls Try.prog 6 #[.agg #[.int .i64 N, .slice ao E.length cap], .int .u32 src, .int .i64 kd] w fun e w' => e = .returned (.bool true) ∧ Ext w w' := by
  have HE := Lib.hid he
  have HED := Lib.hid hE
  have HJ := Lib.hid hJ
  have HKOR := Lib.hid (kindN_or kd)
  have hn1 := sizeN_pos N
  have hn4 := sizeN_le N
  have hsl : src % sizeN N < sizeN N := Nat.mod_lt _ hn1
  have hss : (src : Int) % ((sizeN N : Nat) : Int) = ((src % sizeN N : Nat) : Int) := by omega
  have hkn : ((kindN kd : Nat) : Int) = min (max kd 1) 2 := by unfold kindN; omega
  have hnz : ¬ sizeN N = 0 := by omega
  have HKN := Lib.hid hkn
  have HSS := Lib.hid hss
  clear he hE hJ hkn hss
  generalize src % sizeN N = s at *
  go_enter Try.func6, Try.ntmps6
  go_upto_region 4 with (go_at_call 10; refine (size_any N _ rfl _).mono ?_; rintro e w1 ⟨rfl, hX1⟩; have H1 := Lib.hid hX1; have hg1 := hX1.heap (heap_alloc_new w _); have gc0 := cell_of_row w1 w.heap.size 0 _ _ _ hg1; have gc1 := cell_of_row w1 w.heap.size 1 _ _ _ hg1; have hgl1 := (Array.getElem?_eq_some_iff.1 hg1).1; clear hX1 hg1)
  have hkk : (if 2 < if kd < 1 then 1 else kd then (2 : Int) else if kd < 1 then 1 else kd) = ((kindN kd : Nat) : Int) := by
    rw [HKN.out]; split <;> split at * <;> omega
  rw [hkk, HSS.out]
  clear hkk HSS HKN
  generalize (if kd < 1 then (1 : Int) else kd) = k25
  go_upto_region 5 with (go_at_call 11; refine (list_any N ao cap E (kindN kd : Nat) hlen HED.out _ (HE.out.ext (Ext.trans (Ext.alloc _ _) H1.out))).mono ?_; rintro e w2 ⟨bo, c2, rfl, hX2, hE2, hbo⟩)
  have hX2' := Ext.trans (Ext.trans (Ext.alloc w (.cells #[.int .i64 N, .slice ao E.length cap] 24)) H1.out) hX2
  have hl := listE_length (sizeN N) (kindN kd : Nat) E
  have hE' : ∀ e ∈ listE (sizeN N) (kindN kd : Nat) E, e.s < sizeN N ∧ e.d < sizeN N ∧ e.w < 4294967296 := fun e he => by
    obtain ⟨x, hx, rfl⟩ := List.mem_map.1 he
    refine ⟨Nat.mod_lt _ hn1, Nat.mod_lt _ hn1, ?_⟩
    have := (HED.out x hx).2.2
    dsimp only
    split <;> omega
  have hws : w.heap.size ≤ w2.heap.size := hX2'.size
  generalize listE (sizeN N) (kindN kd : Nat) E = F at *
  generalize kindN kd = kn at *
  generalize sizeN N = n at *
  have HXw := Lib.hid hX2'
  have HF2 := Lib.hid hE2
  have HBO := Lib.hid hbo
  have HED' := Lib.hid hE'
  have HL := Lib.hid hl
  clear hX2' hE2 hbo hE' hX2 H1 gc0 gc1 hgl1 HED HE
  go_upto_region 6 with (go_at_call 20; refine (sssp_any n s kn hn1 (by omega) hsl HKOR.out w2).mono ?_; rintro e w3 ⟨rfl, hX3, hs3, hq3, hb3⟩)
  have hF := flowAt_ways (N := w2.heap.size + 2) (kindF_or kn) (by omega) hq3 hb3 (by omega) (by omega)
  have hcp := play_any (ap := ⟨w2.heap.size + 1, 0, none⟩) hF (sinkOK_ways n s (kindF kn)) (sane_ways n s (kindF kn)) n hn1 hn4 bo c2 F (by rw [hl]; omega) HED'.out ((n : Int) + 1) (by omega) K HJ.out.plays w3 ((Ext.refl _).below.mono (by omega)) (by omega) (HF2.out.ext hX3) (fun ge h => by have := (HBO.out ge h).2; omega)
  rw [hl] at hcp
  have hcb := fun w' (h : Below (w2.heap.size + 2) w3 w') => hF.both w' h
  have HCP := Lib.hid hcp
  have HCB := Lib.hid hcb
  have HX3 := Lib.hid hX3
  clear hcp hcb hF hq3 hb3 hX3
  go_upto_region 7 with (first | (go_at_call 13; refine HCP.out.mono ?_; rintro e w4 ⟨g, c, rfl, hX4, hg, hRow⟩) | (refine wpList_store_at rfl 39 _ _ rfl rfl rfl (At.new (runC (.slice none 0 0) zeroS zeroS 0 0) 39 rfl) i39 rfl (runC_one g n c _ _ _ _) ?_))
  have hJ := HJ.out
  have hls := iterR_length (waysP n s (kindF kn)) F n (K + 1)
  have hX3 : Ext w2 w4 := Ext.trans HX3.out hX4
  have hEd : ∀ x ∈ F, x.s < n ∧ x.d < n := fun x hx => ⟨(HED'.out x hx).1, (HED'.out x hx).2.1⟩
  have hre : neg = false → Reasons (iterR (waysP n s (kindF kn)) F (startR (waysP n s (kindF kn)) n) (K + 1)).S F n s (kindF kn) := fun h => by
    subst h
    exact ways_reasons hEd hn4 hsl hJ
  have hti : neg = false → TightS (iterR (waysP n s (kindF kn)) F (startR (waysP n s (kindF kn)) n) (K + 1)).S F s (kindF kn) := fun h => by
    subst h
    exact ways_tight hEd hn4 hsl hJ
  have hne : neg = true → kn = 2 ∧ lastB 39 F s n = true := fun h => by
    subst h
    exact ways_neg hEd hsl HKOR.out hJ
  have hw1 := hJ.w1
  generalize iterR (waysP n s (kindF kn)) F (startR (waysP n s (kindF kn)) n) (K + 1) = r at *
  have hP3 := keep_wput (w4.alloc (.cells (runC (.slice none 0 0) zeroS zeroS 0 0) 39)) w4.heap.size 0 (runC (.slice (some ⟨g, 0, none⟩) n c) r.agg r.ctl r.rounds r.up)
  have hEV := Ext.trans' (Ext.alloc w4 (.cells (runC (.slice none 0 0) zeroS zeroS 0 0) 39)) hP3 (by simp)
  have hRV : RunAt (wput (w4.alloc (.cells (runC (.slice none 0 0) zeroS zeroS 0 0) 39)) w4.heap.size 0 (runC (.slice (some ⟨g, 0, none⟩) n c) r.agg r.ctl r.rounds r.up)) w4.heap.size (.slice (some ⟨g, 0, none⟩) n c) r.agg r.ctl r.rounds r.up := by
    unfold RunAt
    rw [wput_heap (heap_alloc_new w4 _)]
    simp [runC, spl]
  change Code.wp _ _ _ _ (wput (w4.alloc (.cells (runC (.slice none 0 0) zeroS zeroS 0 0) 39)) w4.heap.size 0 (runC (.slice (some ⟨g, 0, none⟩) n c) r.agg r.ctl r.rounds r.up))
  generalize wput (w4.alloc (.cells (runC (.slice none 0 0) zeroS zeroS 0 0) 39)) w4.heap.size 0 (runC (.slice (some ⟨g, 0, none⟩) n c) r.agg r.ctl r.rounds r.up) = V at *
  have hbV := hRV.lt
  have HRV := Lib.hid hRV
  have HRow := Lib.hid (hRow.ext hEV)
  have HFV := Lib.hid ((HF2.out.ext hX3).ext hEV)
  have HXV := Lib.hid (Ext.trans HXw.out (Ext.trans hX3 hEV))
  have HW1 := Lib.hid hw1
  have HRE := Lib.hid hre
  have HTI := Lib.hid hti
  have HNE := Lib.hid hne
  have HLS := Lib.hid hls
  have hgV : g < V.heap.size := by have := HRow.out.lt; exact this
  clear hRV hRow hEV hX3 hX4 hP3 hw1 hre hti hne hls hJ HCP HCB HF2 HBO HJ HXw HX3 hs3 hEd
  generalize w4.heap.size = B at *
  clear w4
  have hS0 : 0 < r.S.length := by rw [HLS.out]; omega
  have c0 := HRV.out.c0
  have hA0 := HRow.out.at stC_size hS0
  have hcn : ∀ W, Calls Try.prog 22 #[.agg (stC r.S[0])] W fun e w' => e = .returned (.bool neg) ∧ Ext W w' := fun W => by
    have h1 := HW1.out 0 (by omega)
    rw [show r.S.getD 0 zeroS = r.S[0] by simp [List.getD_eq_getElem?_getD, List.getElem?_eq_getElem hS0]] at h1
    have h2 := negative_any r.S[0] W
    have h3 : (r.S[0] 1 == 1) = neg := by rw [h1]; cases neg <;> rfl
    rwa [h3] at h2
  have hni : (0 : Int) < (n : Int) := by omega
  generalize r.S[0] = x0 at *
  rw [Nat.zero_mul] at hA0
  have HA0 := Lib.hid hA0
  have HCN := Lib.hid hcn
  clear hA0 hcn
  go_wp2_with (first | (go_at_call 15; refine (num_any _ _).mono ?_; rintro e w' ⟨rfl, rfl⟩) | (refine wpList_load_at rfl 35 _ rfl _ rfl HA0.out Try.underlying35 rfl i35 ?_))
  go_at_call 22
  refine (HCN.out _).mono ?_
  rintro e w5 ⟨rfl, hX5⟩
  have HX5 := Lib.hid (Ext.trans HXV.out hX5)
  have HR5 := Lib.hid (HRV.out.ext hX5)
  have HRow5 := Lib.hid (HRow.out.ext hX5)
  have HF5 := Lib.hid (HFV.out.ext hX5)
  clear hX5 HXV HRV HRow HFV HA0 HCN c0 hni hbV hgV hS0
  cases neg with
  | true =>
    obtain ⟨rfl, hla⟩ := HNE.out rfl
    have hfc := falls_any n s hn1 hn4 hsl bo c2 F (by rw [HL.out]; omega) HED'.out w5 HF5.out
    rw [HL.out, hla] at hfc
    have HFC := Lib.hid hfc
    clear hfc hla
    go_wp2_with (go_at_call 24; refine HFC.out.mono ?_; rintro e w6 ⟨rfl, hX6⟩)
    go_ret
    exact ⟨rfl, Ext.trans HX5.out hX6⟩
  | false =>
    have hti := HTI.out rfl
    have hrs : ∀ w', Ext w5 w' → Calls Try.prog 23 #[.agg (runC (.slice (some ⟨g, 0, none⟩) n c) r.agg r.ctl r.rounds r.up), .int .u32 s, .int .i64 kn, .slice bo E.length c2] w' fun e w'' => e = .returned (.bool true) ∧ Ext w' w'' := fun w' h => by
      have := reasons_any r.S n HLS.out hn1 hn4 g c r.agg r.ctl r.rounds r.up s kn HKOR.out bo c2 F (by rw [HL.out]; omega) HED'.out (HRE.out rfl) w' (HRow5.out.ext h) (HF5.out.ext h)
      rwa [HL.out] at this
    have HRS := Lib.hid hrs
    have HT := Lib.hid hti
    have HWT := Lib.hid (fun w W => weight_any kn HKOR.out w W)
    have HW1' := Lib.hid (show ∀ v, v < n → r.S.getD v zeroS 1 = 0 from fun v hv => HW1.out v hv)
    clear hti hrs HNE HTI HRE HW1
    go_wp2
    go_loopg [15] E.length (fun m v wr => ∃ j : Nat, j + m = E.length ∧ v = .int .i64 j ∧ Ext w5 wr)
    case atStart => exact ⟨0, by omega, rfl, Ext.refl _⟩
    case round =>
      obtain ⟨j, hj, rfl, hX⟩ := hrel
      have hRr := HR5.out.ext hX
      have c0 := hRr.c0
      have lB := hRr.lt
      by_cases hjl : j < E.length
      · have hjj : (j : Int) < (E.length : Int) := by omega
        have hjF : j < F.length := by rw [HL.out]; exact hjl
        obtain ⟨ge, rfl, hge⟩ := HF5.out (by intro h; subst h; simp at hjF)
        have hge1 := hge.ext hX
        have lge := hge1.lt
        obtain ⟨hxs, hxd, hxw⟩ := HED'.out F[j] (List.getElem_mem hjF)
        have hte := HT.out.edge F[j] (List.getElem_mem hjF)
        have hSl := HLS.out
        have hxs' : F[j].s < r.S.length := by omega
        have hxd' : F[j].d < r.S.length := by omega
        have e0 := hge1.cell hjF (j := 0) (by omega) (v := .int .u32 (F[j].s : Nat)) rfl
        have e1 := hge1.cell hjF (j := 1) (by omega) (v := .int .u32 (F[j].d : Nat)) rfl
        have e2 := hge1.cell hjF (j := 2) (by omega) (v := .int .u32 (F[j].w : Nat)) rfl
        simp only [Nat.add_zero] at e0
        have hAs := (HRow5.out.ext hX).at stC_size hxs'
        have hAd := (HRow5.out.ext hX).at stC_size hxd'
        have lg := hAs.lt
        have hgs : r.S.getD F[j].s zeroS = r.S[F[j].s] := by simp [List.getD_eq_getElem?_getD, List.getElem?_eq_getElem hxs']
        have hgt : r.S.getD F[j].d zeroS = r.S[F[j].d] := by simp [List.getD_eq_getElem?_getD, List.getElem?_eq_getElem hxd']
        have hu1 := HW1'.out _ hxs
        have hv1 := HW1'.out _ hxd
        rw [hgs] at hte hu1
        rw [hgt] at hte hv1
        have hcu := fun W => distance_any r.S[F[j].s] hu1 W
        have hcv := fun W => distance_any r.S[F[j].d] hv1 W
        generalize r.S[F[j].s] = us at *
        generalize r.S[F[j].d] = vs at *
        generalize F[j] = x at *
        have hxsi : (x.s : Int) < (n : Int) := by omega
        have hxdi : (x.d : Int) < (n : Int) := by omega
        have HCW := Lib.hid (fun W => HWT.out x.w W)
        have HTE := Lib.hid hte
        have HX := Lib.hid hX
        have HAs := Lib.hid hAs
        have HAd := Lib.hid hAd
        have HCU := Lib.hid hcu
        have HCV := Lib.hid hcv
        clear hge hge1 hgs hgt hte hX hAs hAd hcu hcv hSl hu1 hv1 hRr
        go_upto_region 14 with fail
        refine wp_region_row 15 0 (by kernel_rfl) (by kernel_rfl) ?_
        simp only [List.take, List.drop]
        iterate 8 (refine wpHead_step (fun K hK => ?_); go_simp; (refine hK _ ?_; clear hK K))
        refine wpHead_load_at rfl 35 _ rfl _ rfl HAs.out.drew Try.underlying35 rfl i35 ?_
        refine wpHead_step (fun K hK => ?_); go_simp
        (apply Exists.intro; refine ⟨fun W1 => ?_, hK _ ?_⟩)
        · exact HCU.out _
        clear hK K
        iterate 5 (refine wpHead_step (fun K hK => ?_); go_simp; (refine hK _ ?_; clear hK K))
        refine wpHead_nil (wpPure_nil ?_)
        intro V1 hV1
        refine wpList_nil (nOnly_mk ?_)
        have hE1 := Ext.trans (Ext.drew wr) hV1
        have c0' := hE1.cell c0
        have e1' := hE1.cell e1
        have e2' := hE1.cell e2
        have lB' : B < V1.heap.size := by have := hE1.size; omega
        have lge' : ge < V1.heap.size := by have := hE1.size; omega
        have lg' : g < V1.heap.size := by have := hE1.size; omega
        have HAd' := Lib.hid (HAd.out.ext hE1)
        have HX1 := Lib.hid (Ext.trans HX.out hE1)
        clear hV1 hE1 HAs HAd c0 e0 e1 e2
        go_upto_region 15 with fail
        refine wp_region_row 15 0 (by kernel_rfl) (by kernel_rfl) ?_
        simp only [List.take, List.drop]
        iterate 8 (refine wpHead_step (fun K hK => ?_); go_simp; (refine hK _ ?_; clear hK K))
        refine wpHead_load_at rfl 35 _ rfl _ rfl HAd'.out.drew Try.underlying35 rfl i35 ?_
        refine wpHead_step (fun K hK => ?_); go_simp
        (apply Exists.intro; refine ⟨fun W1 => ?_, hK _ ?_⟩)
        · exact HCV.out _
        clear hK K
        iterate 5 (refine wpHead_step (fun K hK => ?_); go_simp; (refine hK _ ?_; clear hK K))
        refine wpHead_nil (wpPure_nil ?_)
        intro V2 hV2
        refine wpList_nil (nOnly_mk ?_)
        have hE2 := Ext.trans (Ext.drew V1) hV2
        have e2 := hE2.cell e2'
        have lge2 : ge < V2.heap.size := by have := hE2.size; omega
        have HX2 := Lib.hid (Ext.trans HX1.out hE2)
        clear hV2 hE2 HAd' c0' e1' e2' lB' lge' lg'
        by_cases hu : us 0 = ENDL
        · have q1 : (us 0 != 9223372036854775807) = false := by simpa using show us 0 = 9223372036854775807 from hu
          rw [if_pos hu, q1]
          generalize (if vs 0 = ENDL then (0 : Int) else wrap64 (vs 0)) = vb
          clear q1 hu HTE
          go_wp2
          go_roundg (gk - 1)
          case measure => omega
          case rel => exact ⟨j + 1, by omega, by go_num, HX2.out⟩
        · obtain ⟨hv, hlt⟩ := HTE.out hu
          have q1 : (us 0 != 9223372036854775807) = true := by simpa using show ¬ us 0 = 9223372036854775807 from hu
          have q2 : (vs 0 != 9223372036854775807) = true := by simpa using show ¬ vs 0 = 9223372036854775807 from hv
          rw [if_neg hu, q1, if_neg hv, q2]
          clear q1 q2 hu hv HTE
          generalize wrap64 (us 0) = ua at *
          generalize wrap64 (vs 0) = va at *
          generalize wtI (kindF kn) x.w = wt at *
          go_wp2_with (go_at_call 26; refine (HCW.out _).mono ?_; rintro e w6 ⟨rfl, hX6⟩; have HX6 := Lib.hid (Ext.trans HX2.out hX6); clear hX6)
          go_roundg (gk - 1)
          case measure => omega
          case rel => exact ⟨j + 1, by omega, by go_num, HX6.out⟩
      · have hSl := HLS.out
        have hss : s < r.S.length := by omega
        have hAs := (HRow5.out.ext hX).at stC_size hss
        have lg := hAs.lt
        have hgs : r.S.getD s zeroS = r.S[s] := by simp [List.getD_eq_getElem?_getD, List.getElem?_eq_getElem hss]
        have hu1 := HW1'.out _ hsl
        have hu0 := HT.out.src
        rw [hgs] at hu1 hu0
        have hcu : ∀ W, Calls Try.prog 25 #[.agg (stC r.S[s])] W fun e w' => e = .returned (.tuple #[.int .i64 0, .bool true]) ∧ Ext W w' := fun W => by
          have h := distance_any r.S[s] hu1 W
          have hv1 : (if (0 : Int) = ENDL then (0 : Int) else wrap64 0) = 0 := by
            split
            · rfl
            · unfold wrap64; omega
          have hv2 : ((0 : Int) != 9223372036854775807) = true := by decide
          rw [hu0, hv1, hv2] at h
          exact h
        have hsi : (s : Int) < (n : Int) := by omega
        generalize r.S[s] = us at *
        have HX := Lib.hid hX
        have HRr := Lib.hid hRr
        have HAs := Lib.hid hAs
        have HCU := Lib.hid hcu
        clear hX hRr hAs hcu hSl hss hgs hu1 hu0
        go_wp2_with (refine wpList_load_at rfl 35 _ rfl _ rfl HAs.out Try.underlying35 rfl i35 ?_)
        go_at_call 25
        refine (HCU.out _).mono ?_
        rintro e w6 ⟨rfl, hX6⟩
        have HX6 := Lib.hid (Ext.trans HX.out hX6)
        have HR6 := Lib.hid (HRr.out.ext hX6)
        clear hX6
        go_wp2_with (refine wpList_load_atG rfl 39 _ rfl _ rfl HR6.out.whole Try.underlying39 rfl i39 ?_)
        go_at_call 23
        refine (HRS.out _ HX6.out).mono ?_
        rintro e w9 ⟨rfl, hX9⟩
        have HX9 := Lib.hid (Ext.trans HX6.out hX9)
        clear hX9
        go_wp2
        go_ret
        exact ⟨rfl, Ext.trans HX5.out HX9.out⟩
end Go.Proofs.Ytalpjipopipncaa
