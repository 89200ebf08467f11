/- The walk of the law FlowsSteps. Conditions: those of law9_any. -/
import Derived.Test.YtalpjipopipncaaSp3
import Derived.Test.YtalpjipopipncaaPs3
import Derived.Test.YtalpjipopipncaaL05
namespace Go.Proofs.Ytalpjipopipncaa
open Go Go.RowKit

/-- Which vertices' reached-from have been seen among the first k edges. -/
def parB (S : List St) (E : List Edg) : Nat → Nat → Bool
  | 0, _ => false
  | k + 1, v => if lvS S (E.getD k ⟨0, 0, 0⟩).s ≠ U64 ∧ lvS S (E.getD k ⟨0, 0, 0⟩).d = lvS S (E.getD k ⟨0, 0, 0⟩).s + 1 ∧ v = (E.getD k ⟨0, 0, 0⟩).d then parB S E k v || paS S (E.getD k ⟨0, 0, 0⟩).d == (((E.getD k ⟨0, 0, 0⟩).s : Nat) : Int) else parB S E k v
theorem parB_mem (S : List St) (E : List Edg) (x : Edg) (h1 : lvS S x.s ≠ U64) (h2 : lvS S x.d = lvS S x.s + 1) (h3 : paS S x.d = (x.s : Int)) : ∀ k, (∃ j, j < k ∧ E.getD j ⟨0, 0, 0⟩ = x) → parB S E k x.d = true
  | 0, ⟨j, hj, _⟩ => by omega
  | k + 1, ⟨j, hj, he⟩ => by
    rw [parB]
    by_cases hjk : j = k
    · subst hjk
      rw [he, if_pos ⟨h1, h2, rfl⟩, h3]
      simp
    · have ih := parB_mem S E x h1 h2 h3 k ⟨j, by omega, he⟩
      split
      · rw [ih]; rfl
      · exact ih
section
variable {E : List Edg} {n s : Nat} {S : List St}
theorem parB_all (hn : n ≤ 400) (h : SpFin E n [s] false (lvS S) (paS S)) (v : Nat) (hv : v < n) (hvs : v ≠ s) (hne : lvS S v ≠ U64) : parB S E E.length v = true := by
  obtain ⟨x, hx, rfl, h1, h2⟩ := h.held v hv hne (fun hh => hvs (List.mem_singleton.1 hh))
  obtain ⟨j, hj, rfl⟩ := List.getElem_of_mem hx
  have hU := u64_big
  have hb := h.lv _ hv
  exact parB_mem S E E[j] (by omega) h1.symm h2 E.length ⟨j, hj, by simp [List.getD_eq_getElem?_getD, List.getElem?_eq_getElem hj]⟩
theorem parB_none (h : SpFin E n [s] false (lvS S) (paS S)) (v : Nat) (hne : lvS S v = U64) : ∀ k, k ≤ E.length → parB S E k v = false
  | 0, _ => rfl
  | k + 1, hk => by
    rw [parB, if_neg]
    · exact parB_none h v hne k (by omega)
    · rintro ⟨h1, h2, h3⟩
      have := (h.edge _ (getD_mem (show k < E.length by omega)) h1).1
      rw [← h3] at this
      exact this hne
end

set_option maxRecDepth 20000 in
set_option maxHeartbeats 4000000 in
theorem law9_any (N : Int) (ao : Option Addr) (cap : Nat) (E : List Edg) (src : Nat) (hsrc : src < 4294967296) (hlen : E.length ≤ 11728124029269) (hE : ∀ e ∈ E, e.s < 4294967296 ∧ e.d < 4294967296 ∧ e.w < 4294967296) (K : Nat)
    (hJ : SpreadOK (listE (sizeN N) 1 E) (sizeN N) [src % sizeN N] false K) (w : World) (he : EdgesIn w ao E) :
    Calls Try.prog 9 #[.agg #[.int .i64 N, .slice ao E.length cap], .int .u32 src] w fun e w' => e = .returned (.bool true) ∧ Ext w w' := by
  have HE := Lib.hid he
  have HED := Lib.hid hE
  have HJ := Lib.hid hJ
  have hn1 := sizeN_pos N
  have hn4 := sizeN_le N
  have hsl : src % sizeN N < sizeN N := Nat.mod_lt _ hn1
  have hss : (src : Int) % ((sizeN N : Nat) : Int) = ((src % sizeN N : Nat) : Int) := by omega
  have hnz : ¬ sizeN N = 0 := by omega
  have HSS := Lib.hid hss
  clear he hE hJ hss
  generalize src % sizeN N = s at *
  go_enter Try.func9, Try.ntmps9
  go_upto_region 3 with (go_at_call 10; refine (size_any N _ rfl _).mono ?_; rintro e w1 ⟨rfl, hX1⟩; have H1 := Lib.hid hX1; have hg1 := hX1.heap (heap_alloc_new w _); have gc0 := cell_of_row w1 w.heap.size 0 _ _ _ hg1; have gc1 := cell_of_row w1 w.heap.size 1 _ _ _ hg1; have hgl1 := (Array.getElem?_eq_some_iff.1 hg1).1; clear hX1 hg1)
  rw [HSS.out]
  clear HSS
  go_upto_region 4 with (go_at_call 11; refine (list_any N ao cap E 1 hlen HED.out _ (HE.out.ext (Ext.trans (Ext.alloc _ _) H1.out))).mono ?_; rintro e w2 ⟨bo, c2, rfl, hX2, hE2, hbo⟩)
  have hX2' := Ext.trans (Ext.trans (Ext.alloc w (.cells #[.int .i64 N, .slice ao E.length cap] 24)) H1.out) hX2
  have hl := listE_length (sizeN N) 1 E
  have hE' : ∀ e ∈ listE (sizeN N) 1 E, e.s < sizeN N ∧ e.d < sizeN N ∧ e.w < 4294967296 := fun e he => by
    obtain ⟨x, hx, rfl⟩ := List.mem_map.1 he
    refine ⟨Nat.mod_lt _ hn1, Nat.mod_lt _ hn1, ?_⟩
    have := (HED.out x hx).2.2
    dsimp only
    split <;> omega
  have hws : w.heap.size ≤ w2.heap.size := hX2'.size
  generalize listE (sizeN N) 1 E = F at *
  generalize sizeN N = n at *
  have HXw := Lib.hid hX2'
  have HF2 := Lib.hid hE2
  have HBO := Lib.hid hbo
  have HED' := Lib.hid hE'
  have HL := Lib.hid hl
  clear hX2' hE2 hbo hE' hX2 H1 gc0 gc1 hgl1 HED HE
  go_upto_region 5 with (go_at_call 27; refine (bfs_any n s hn1 (by omega) hsl w2).mono ?_; rintro e w3 ⟨bb, sp, gs, cs, bq, rfl, hX3, hbs3, hsp3, hgs3, hbq3, hbb3⟩)
  have hF := flowAt_bfs (srcs := [s]) (L := [s]) (n := 1) (N := w3.heap.size) (fun _ => Iff.rfl) rfl (by omega) (fun i j hi hj => by
    obtain rfl : i = 0 := by simp at hj; omega
    obtain rfl : j = 0 := by simpa using hj
    exact Nat.le_refl _) hsp3 hgs3 hbq3 hbb3 (Array.getElem?_eq_some_iff.1 hsp3).1 hgs3.lt (Array.getElem?_eq_some_iff.1 hbq3).1 (Array.getElem?_eq_some_iff.1 hbb3).1
  have hcp := play_any (ap := ⟨bb, 0, none⟩) hF (sinkOK_spread [s] false) (.inr (.inl ⟨rfl, rfl, rfl, rfl, rfl⟩)) n hn1 hn4 bo c2 F (by rw [hl]; omega) HED'.out (n : Int) (by omega) K HJ.out.plays w3 ((Ext.refl _).below.mono (by omega)) (by omega) (HF2.out.ext hX3) (fun ge h => by have := (HBO.out ge h).2; have := hX3.size; omega)
  rw [hl] at hcp
  have HCP := Lib.hid hcp
  have HX3 := Lib.hid hX3
  clear hcp hF hsp3 hgs3 hbq3 hbb3 hX3 hbs3
  go_upto_region 6 with (first | (go_at_call 13; refine HCP.out.mono ?_; rintro e w4 ⟨g, c, rfl, hX4, hg, hRow⟩) | (refine wpList_store_at rfl 39 _ _ rfl rfl rfl (At.new (runC (.slice none 0 0) zeroS zeroS 0 0) 39 rfl) i39 rfl (runC_one g n c _ _ _ _) ?_))
  have hJ := HJ.out
  have hls := iterR_length (spreadP [s] false) F n (K + 1)
  have hX3 : Ext w2 w4 := Ext.trans HX3.out hX4
  have hfi := hJ.fin
  generalize iterR (spreadP [s] false) F (startR (spreadP [s] false) n) (K + 1) = r at *
  have hP3 := keep_wput (w4.alloc (.cells (runC (.slice none 0 0) zeroS zeroS 0 0) 39)) w4.heap.size 0 (runC (.slice (some ⟨g, 0, none⟩) n c) r.agg r.ctl r.rounds r.up)
  have hEV := Ext.trans' (Ext.alloc w4 (.cells (runC (.slice none 0 0) zeroS zeroS 0 0) 39)) hP3 (by simp)
  have hRV : RunAt (wput (w4.alloc (.cells (runC (.slice none 0 0) zeroS zeroS 0 0) 39)) w4.heap.size 0 (runC (.slice (some ⟨g, 0, none⟩) n c) r.agg r.ctl r.rounds r.up)) w4.heap.size (.slice (some ⟨g, 0, none⟩) n c) r.agg r.ctl r.rounds r.up := by
    unfold RunAt
    rw [wput_heap (heap_alloc_new w4 _)]
    simp [runC, spl]
  change Code.wp _ _ _ _ (wput (w4.alloc (.cells (runC (.slice none 0 0) zeroS zeroS 0 0) 39)) w4.heap.size 0 (runC (.slice (some ⟨g, 0, none⟩) n c) r.agg r.ctl r.rounds r.up))
  generalize wput (w4.alloc (.cells (runC (.slice none 0 0) zeroS zeroS 0 0) 39)) w4.heap.size 0 (runC (.slice (some ⟨g, 0, none⟩) n c) r.agg r.ctl r.rounds r.up) = V at *
  have hbV := hRV.lt
  have HRV := Lib.hid hRV
  have HRow := Lib.hid (hRow.ext hEV)
  have HFV := Lib.hid ((HF2.out.ext hX3).ext hEV)
  have HXV := Lib.hid (Ext.trans HXw.out (Ext.trans hX3 hEV))
  have HFI := Lib.hid hfi
  have HLS := Lib.hid hls
  have hgV : g < V.heap.size := by have := HRow.out.lt; exact this
  have hbs : w.heap.size ≤ w4.heap.size := by have := (Ext.trans HXw.out hX3).size; exact this
  clear hRV hRow hEV hX3 hX4 hP3 hfi hls hJ HCP HF2 HBO HJ HXw HX3
  generalize w4.heap.size = B at *
  clear w4
  have hS0 : s < r.S.length := by rw [HLS.out]; exact hsl
  have c0 := HRV.out.c0
  obtain ⟨hL0, hP0⟩ := HFI.out.src s hsl (List.mem_singleton.2 rfl)
  have hgs0 : r.S.getD s zeroS = r.S[s] := by simp [List.getD_eq_getElem?_getD, List.getElem?_eq_getElem hS0]
  have r0 : V.cell? ⟨g, s * 8, none⟩ = some (.int .u64 0) := by
    have := HRow.out.cell hS0 (j := 0) (by omega) (v := .int .u64 (r.S[s] 0)) rfl
    have e : r.S[s] 0 = 0 := by rw [← hgs0]; exact hL0
    rwa [e] at this
  have r1 : V.cell? ⟨g, s * 8 + 1, none⟩ = some (.int .u64 (s : Int)) := by
    have := HRow.out.cell hS0 (j := 1) (by omega) (v := .int .u64 (r.S[s] 1)) rfl
    have e : r.S[s] 1 = (s : Int) := by rw [← hgs0]; exact hP0
    rwa [e] at this
  have hwrs : IntKind.u64.wrap (s : Int) = (s : Int) := by rw [u64_eq]; omega
  have hsi : (s : Int) < (n : Int) := by omega
  clear hL0 hP0 hgs0 hS0
  go_upto_region 8 with (go_at_call 15; refine (num_any _ _).mono ?_; rintro e w' ⟨rfl, rfl⟩)
  obtain ⟨i0, hi, hz0, hz1, hz2⟩ := info_parts info4
  have hmk := fun W => run_make_rowN (P := Try.prog) 74 4 i0 _ Try.underlying74 hi hz0 .u32 .u32 n n (Nat.le_refl _) (by rw [hz2]; omega) (by omega) W
  rw [hz1] at hmk
  rw [Nat.mul_one] at hmk
  clear hi hz0 hz1 hz2 r0 r1 hwrs hsi
  have H0 : Hid (RowF (V.alloc (.cells (madeCells #[.bool false] n) 4)) V.heap.size 4 boolV (fun _ => false) n) := Lib.hid (RowF.made (c := boolV) false V 4 n)
  go_wp2
  clear hmk
  generalize hgh : V.heap.size = gh at *
  have HGH := Lib.hid hgh
  clear hgh
  go_loopg [13] E.length (fun m v wr => ∃ j : Nat, j + m = E.length ∧ v = .int .i64 j ∧ Ext V wr ∧ RowF wr gh 4 boolV (parB r.S F j) n)
  case atStart => exact ⟨0, by omega, rfl, Ext.alloc _ _, H0.out⟩
  clear H0
  case round =>
    obtain ⟨j, hj, rfl, hX, hH⟩ := hrel
    have hszV := hX.size
    have lh := hH.lt
    have lB : B < wr.heap.size := by omega
    have g1 := hX.cell c0
    by_cases hjl : j < E.length
    · have hjj : (j : Int) < (E.length : Int) := by omega
      have hjF : j < F.length := by rw [HL.out]; exact hjl
      obtain ⟨ge, rfl, hge⟩ := HFV.out (by intro h; subst h; simp at hjF)
      have hge1 := hge.ext hX
      have lge := hge1.lt
      obtain ⟨hxs, hxd, hxw⟩ := HED'.out F[j] (List.getElem_mem hjF)
      have hSl := HLS.out
      have hxs' : F[j].s < r.S.length := by omega
      have hxd' : F[j].d < r.S.length := by omega
      have e0 := hge1.cell hjF (j := 0) (by omega) (v := .int .u32 (F[j].s : Nat)) rfl
      have e1 := hge1.cell hjF (j := 1) (by omega) (v := .int .u32 (F[j].d : Nat)) rfl
      simp only [Nat.add_zero] at e0
      have hAs := (HRow.out.ext hX).at stC_size hxs'
      have hAd := (HRow.out.ext hX).at stC_size hxd'
      have gls := hAs.lt
      have hgd : F.getD j ⟨0, 0, 0⟩ = F[j] := by simp [List.getD_eq_getElem?_getD, List.getElem?_eq_getElem hjF]
      have hgs : r.S.getD F[j].s zeroS = r.S[F[j].s] := by simp [List.getD_eq_getElem?_getD, List.getElem?_eq_getElem hxs']
      have hgt : r.S.getD F[j].d zeroS = r.S[F[j].d] := by simp [List.getD_eq_getElem?_getD, List.getElem?_eq_getElem hxd']
      have hpe : ∀ v, parB r.S F (j + 1) v = if r.S[F[j].s] 0 ≠ U64 ∧ r.S[F[j].d] 0 = r.S[F[j].s] 0 + 1 ∧ v = F[j].d then parB r.S F j v || r.S[F[j].d] 1 == ((F[j].s : Nat) : Int) else parB r.S F j v := fun v => by
        rw [parB, hgd, lvS, lvS, paS, hgs, hgt]
      have hed : r.S[F[j].s] 0 ≠ U64 → (0 ≤ r.S[F[j].s] 0 ∧ r.S[F[j].s] 0 < n) ∧ (r.S[F[j].d] 0 ≠ U64 ∧ r.S[F[j].d] 0 ≤ r.S[F[j].s] 0 + 1) ∧ (r.S[F[j].d] 0 = r.S[F[j].s] 0 + 1 → r.S[F[j].d] 1 ≤ ((F[j].s : Nat) : Int)) := fun hne => by
        have q1 := HFI.out.lv _ hxs
        have q2 := HFI.out.edge _ (List.getElem_mem hjF)
        have q3 := HFI.out.least _ (List.getElem_mem hjF)
        have q4 : offI false (paS r.S) F[j] = ((F[j].s : Nat) : Int) := rfl
        rw [q4] at q3
        unfold lvS paS at *
        rw [hgs] at q1 q2 q3
        rw [hgt] at q2 q3
        exact ⟨q1.resolve_left hne, q2 hne, q3 hne⟩
      generalize r.S[F[j].s] = us at *
      generalize r.S[F[j].d] = vs at *
      generalize F[j] = x at *
      have hxsi : (x.s : Int) < (n : Int) := by omega
      have hxdi : (x.d : Int) < (n : Int) := by omega
      have HPE := Lib.hid hpe
      have HEDG := Lib.hid hed
      have HX := Lib.hid hX
      have HH := Lib.hid hH
      have HAs := Lib.hid hAs
      have HAd := Lib.hid hAd
      clear hge hge1 hgd hgs hgt hpe hed hX hH hAs hAd hSl hxs' hxd'
      go_upto_region 12 with fail
      refine wp_region_new 9 0 (by kernel_rfl) (by kernel_rfl) ?_
      simp only [List.take, List.drop]
      iterate 8 (refine wpHead_step (fun K hK => ?_); go_simp; (refine hK _ ?_; clear hK K))
      refine wpHead_load_at rfl 35 _ rfl _ rfl HAs.out.drew Try.underlying35 rfl i35 ?_
      refine wpHead_nil ?_
      refine wpPure_nil ?_
      refine fOpE_alloc35 (ho := rfl) rfl rfl (fun w3 hw3 w4 hw4 => ?_)
      have hE1 : Ext wr w4 := ((Ext.trans (Ext.drew wr) hw3).trans (Ext.alloc _ _)).trans hw4
      have hz : At w4 w3.heap.size 0 (stC zeroS) := At.ext (At.new _ _ rfl) hw4
      have hb1 : wr.heap.size ≤ w3.heap.size := by have := (Ext.trans (Ext.drew wr) hw3).size; exact this
      clear hw3 hw4
      generalize w3.heap.size = b1 at *
      clear w3
      have HZ := Lib.hid hz
      have HE1 := Lib.hid hE1
      clear hz hE1
      go_simp
      go_wp2_with (refine wpList_store_at rfl 35 _ _ rfl rfl rfl HZ.out i35 rfl (stC_one _) ?_)
      refine nOnly_mk ?_
      have hP := keep_wput w4 b1 0 (stC us)
      have hA1 := HZ.out.put (stC_size us)
      have hEV := Ext.trans' HE1.out hP (by simp; exact hb1)
      generalize wput w4 b1 0 (stC us) = V1 at *
      clear hP HZ HE1 w4
      have HV1 := Lib.hid hEV
      have HA1 := Lib.hid hA1
      have g1 := hEV.cell g1
      have e0' := hEV.cell e0
      have e1' := hEV.cell e1
      have lB' : B < V1.heap.size := by have := hEV.size; omega
      have lge' : ge < V1.heap.size := by have := hEV.size; omega
      have gls' : g < V1.heap.size := by have := hEV.size; omega
      have lh' : gh < V1.heap.size := by have := hEV.size; omega
      have HAd' := Lib.hid (HAd.out.ext hEV)
      clear hEV hA1 e0 e1 HAd HAs
      go_upto_region 13 with fail
      refine wp_region_new 9 0 (by kernel_rfl) (by kernel_rfl) ?_
      simp only [List.take, List.drop]
      iterate 8 (refine wpHead_step (fun K hK => ?_); go_simp; (refine hK _ ?_; clear hK K))
      refine wpHead_load_at rfl 35 _ rfl _ rfl HAd'.out.drew Try.underlying35 rfl i35 ?_
      refine wpHead_nil ?_
      refine wpPure_nil ?_
      refine fOpE_alloc35 (ho := rfl) rfl rfl (fun w3 hw3 w4 hw4 => ?_)
      have hE1 : Ext V1 w4 := ((Ext.trans (Ext.drew V1) hw3).trans (Ext.alloc _ _)).trans hw4
      have hz : At w4 w3.heap.size 0 (stC zeroS) := At.ext (At.new _ _ rfl) hw4
      have hb2 : V1.heap.size ≤ w3.heap.size := by have := (Ext.trans (Ext.drew V1) hw3).size; exact this
      clear hw3 hw4
      generalize w3.heap.size = b2 at *
      clear w3
      have HZ := Lib.hid hz
      have HE1 := Lib.hid hE1
      clear hz hE1
      go_simp
      go_wp2_with (refine wpList_store_at rfl 35 _ _ rfl rfl rfl HZ.out i35 rfl (stC_one _) ?_)
      refine nOnly_mk ?_
      have hP := keep_wput w4 b2 0 (stC vs)
      have hA2 := HZ.out.put (stC_size vs)
      have hEV := Ext.trans' HE1.out hP (by simp; exact hb2)
      generalize wput w4 b2 0 (stC vs) = V2 at *
      clear hP HZ HE1 w4
      have hA1' := HA1.out.ext hEV
      have hX2 := Ext.trans HV1.out hEV
      have e0 := hEV.cell e0'
      have e1 := hEV.cell e1'
      have u0 : V2.cell? ⟨b1, 0, none⟩ = some (.int .u64 (us 0)) := by simpa using hA1'.cell (j := 0) (v := .int .u64 (us 0)) rfl
      have v0 : V2.cell? ⟨b2, 0, none⟩ = some (.int .u64 (vs 0)) := by simpa using hA2.cell (j := 0) (v := .int .u64 (vs 0)) rfl
      have v1 : V2.cell? ⟨b2, 1, none⟩ = some (.int .u64 (vs 1)) := by simpa using hA2.cell (j := 1) (v := .int .u64 (vs 1)) rfl
      have l1 := hA1'.lt
      have l2 := hA2.lt
      have lge2 : ge < V2.heap.size := by have := hEV.size; omega
      have lh2 : gh < V2.heap.size := by have := hEV.size; omega
      have HH2 := Lib.hid (HH.out.ext hX2)
      have HX2 := Lib.hid (Ext.trans HX.out hX2)
      clear hA1' hA2 hEV hX2 HA1 HV1 HAd' e0' e1' g1 lB' lge' gls' lh' HH HX
      by_cases hu : us 0 = U64
      · have q1 : (us 0 == 18446744073709551615) = true := by simpa using show us 0 = 18446744073709551615 from hu
        have HNO := Lib.hid hu
        clear hu
        go_wp2
        go_roundg (gk - 1)
        case measure => omega
        case rel => exact ⟨j + 1, by omega, by go_num, HX2.out, HH2.out.congr fun v hv => by rw [HPE.out v, if_neg (fun h => h.1 HNO.out)]⟩
      · obtain ⟨⟨hu1, hu2⟩, ⟨hv1, hv2⟩, hv3⟩ := HEDG.out hu
        have q1 : (us 0 == 18446744073709551615) = false := by simpa using show ¬ us 0 = 18446744073709551615 from hu
        have q2 : (vs 0 == 18446744073709551615) = false := by simpa using show ¬ vs 0 = 18446744073709551615 from hv1
        have hwu : IntKind.u64.wrap (us 0 + 1) = us 0 + 1 := by rw [u64_eq]; omega
        have q3 : ¬ us 0 + 1 < vs 0 := by omega
        have HU := Lib.hid hu
        have HV3 := Lib.hid hv3
        clear hu hv1 hv2 hv3 HEDG
        by_cases hvu : vs 0 = us 0 + 1
        · have q4 : (vs 0 == us 0 + 1) = true := by simpa using hvu
          have HVU := Lib.hid hvu
          have hv3 := HV3.out hvu
          have hwx : IntKind.u64.wrap (x.s : Int) = (x.s : Int) := by rw [u64_eq]; omega
          have q5 : ¬ (x.s : Int) < vs 1 := by omega
          have q6 := HH2.out.get hxd
          simp only [boolV] at q6
          clear hvu hv3
          go_upto_region 18 with fail
          refine wp_region_row 9 0 (by kernel_rfl) (by kernel_rfl) ?_
          simp only [List.take, List.drop]
          iterate 9 (refine wpHead_step (fun K hK => ?_); go_simp; (refine hK _ ?_; clear hK K))
          refine wpHead_nil (wpPure_nil ?_)
          intro V3 hV3
          refine wpList_nil (nOnly_mk ?_)
          have hE3 := Ext.trans (Ext.drew V2) hV3
          have e0 := hE3.cell e0
          have e1 := hE3.cell e1
          have u0 := hE3.cell u0
          have v0 := hE3.cell v0
          have v1 := hE3.cell v1
          have q6 := hE3.cell q6
          have lge2 : ge < V3.heap.size := by have := hE3.size; omega
          have lh2 : gh < V3.heap.size := by have := hE3.size; omega
          have l1 : b1 < V3.heap.size := by have := hE3.size; omega
          have l2 : b2 < V3.heap.size := by have := hE3.size; omega
          have HH3 := Lib.hid (HH2.out.ext hE3)
          have HX3 := Lib.hid (Ext.trans HX2.out hE3)
          clear hV3 hE3 HH2 HX2
          generalize hpb : parB r.S F j x.d = pb at *
          generalize hbq : (vs 1 == (x.s : Int)) = bq at *
          have HPB := Lib.hid hpb
          clear hpb
          cases pb with
          | true =>
            clear hbq
            clear q4 q5
            go_upto_region 20 with fail
            refine wp_region_row 26 0 (by kernel_rfl) (by kernel_rfl) ?_
            simp only [List.take, List.drop]
            iterate 15 (refine wpHead_step (fun K hK => ?_); go_simp; (refine hK _ ?_; clear hK K))
            iterate 9 (with_reducible refine wpHead_off ?_ ?_; kernel_rfl)
            iterate 2 (refine wpHead_step (fun K hK => ?_); go_simp; (refine hK _ ?_; clear hK K))
            refine wpHead_nil (wpPure_nil ?_)
            intro V4 hV4
            have hE4 := Ext.trans (Ext.drew V3) hV4
            have hH4 := HH3.out.ext hE4
            have fz := hH4.frozen x.d
            have q7 := hH4.get hxd
            have lh4 := hH4.lt
            simp only [boolV] at q7
            have HH5 := Lib.hid (hH4.set hxd true)
            have HX5 := Lib.hid (Ext.trans' (Ext.trans HX3.out hE4) (Keep.setCell (S := [gh]) (Keep.refl [gh] V4) (p := ⟨gh, x.d, none⟩) (.inl (by simp)) (boolV true)) (by simp; exact Nat.le_of_eq HGH.out))
            clear hV4 hE4 hH4 e0 e1 u0 v0 v1 HH3 HX3
            go_wp2
            refine nOnly_mk ?_
            go_wp2
            go_roundg (gk - 1)
            case measure => omega
            case rel => exact ⟨j + 1, by omega, by go_num, HX5.out, HH5.out.congr fun v hv => by
              rw [HPE.out v]
              by_cases hvd : v = x.d
              · rw [if_pos hvd, if_pos ⟨HU.out, HVU.out, hvd⟩, hvd, HPB.out]
                rfl
              · rw [if_neg hvd, if_neg (fun h => hvd h.2.2)]⟩
          | false =>
            cases bq with
            | true =>
              go_upto_region 20 with fail
              refine wp_region_row 26 0 (by kernel_rfl) (by kernel_rfl) ?_
              simp only [List.take, List.drop]
              iterate 15 (refine wpHead_step (fun K hK => ?_); go_simp; (refine hK _ ?_; clear hK K))
              iterate 9 (with_reducible refine wpHead_on ?_ (fun K hK => ?_); kernel_rfl; go_simp; (refine hK _ ?_; clear hK K))
              iterate 2 (refine wpHead_step (fun K hK => ?_); go_simp; (refine hK _ ?_; clear hK K))
              refine wpHead_nil (wpPure_nil ?_)
              intro V4 hV4
              have hE4 := Ext.trans (Ext.drew V3) hV4
              have hH4 := HH3.out.ext hE4
              have fz := hH4.frozen x.d
              have q7 := hH4.get hxd
              have lh4 := hH4.lt
              simp only [boolV] at q7
              have HH5 := Lib.hid (hH4.set hxd true)
              have HX5 := Lib.hid (Ext.trans' (Ext.trans HX3.out hE4) (Keep.setCell (S := [gh]) (Keep.refl [gh] V4) (p := ⟨gh, x.d, none⟩) (.inl (by simp)) (boolV true)) (by simp; exact Nat.le_of_eq HGH.out))
              clear hV4 hE4 hH4 e0 e1 u0 v0 v1 HH3 HX3
              go_wp2
              refine nOnly_mk ?_
              go_wp2
              go_roundg (gk - 1)
              case measure => omega
              case rel => exact ⟨j + 1, by omega, by go_num, HX5.out, HH5.out.congr fun v hv => by
                rw [HPE.out v]
                by_cases hvd : v = x.d
                · rw [if_pos hvd, if_pos ⟨HU.out, HVU.out, hvd⟩, hvd, HPB.out]
                  rfl
                · rw [if_neg hvd, if_neg (fun h => hvd h.2.2)]⟩
            | false =>
              go_upto_region 20 with fail
              refine wp_region_row 26 0 (by kernel_rfl) (by kernel_rfl) ?_
              simp only [List.take, List.drop]
              iterate 15 (refine wpHead_step (fun K hK => ?_); go_simp; (refine hK _ ?_; clear hK K))
              iterate 9 (with_reducible refine wpHead_on ?_ (fun K hK => ?_); kernel_rfl; go_simp; (refine hK _ ?_; clear hK K))
              iterate 2 (refine wpHead_step (fun K hK => ?_); go_simp; (refine hK _ ?_; clear hK K))
              refine wpHead_nil (wpPure_nil ?_)
              intro V4 hV4
              have hE4 := Ext.trans (Ext.drew V3) hV4
              have hH4 := HH3.out.ext hE4
              have fz := hH4.frozen x.d
              have q7 := hH4.get hxd
              have lh4 := hH4.lt
              simp only [boolV] at q7
              have HH5 := Lib.hid (hH4.set hxd false)
              have HX5 := Lib.hid (Ext.trans' (Ext.trans HX3.out hE4) (Keep.setCell (S := [gh]) (Keep.refl [gh] V4) (p := ⟨gh, x.d, none⟩) (.inl (by simp)) (boolV false)) (by simp; exact Nat.le_of_eq HGH.out))
              clear hV4 hE4 hH4 e0 e1 u0 v0 v1 HH3 HX3
              go_wp2
              refine nOnly_mk ?_
              go_wp2
              go_roundg (gk - 1)
              case measure => omega
              case rel => exact ⟨j + 1, by omega, by go_num, HX5.out, HH5.out.congr fun v hv => by
                rw [HPE.out v]
                by_cases hvd : v = x.d
                · rw [if_pos hvd, if_pos ⟨HU.out, HVU.out, hvd⟩, hvd, HPB.out]
                  rfl
                · rw [if_neg hvd, if_neg (fun h => hvd h.2.2)]⟩
        · have q4 : (vs 0 == us 0 + 1) = false := by simpa using hvu
          have HNO := Lib.hid hvu
          clear hvu
          go_wp2
          go_roundg (gk - 1)
          case measure => omega
          case rel => exact ⟨j + 1, by omega, by go_num, HX2.out, HH2.out.congr fun v hv => by rw [HPE.out v, if_neg (fun h => HNO.out h.2.1)]⟩
    · have hjE : j = E.length := by omega
      subst hjE
      have hpl : E.length = F.length := HL.out.symm
      have hall : ∀ v, v < n → (v ≠ s → r.S.getD v zeroS 0 ≠ U64 → parB r.S F E.length v = true ∧ r.S.getD v zeroS 1 ≠ U64 ∧ r.S.getD v zeroS 0 ≠ 0) ∧ (r.S.getD v zeroS 0 = U64 → parB r.S F E.length v = false ∧ r.S.getD v zeroS 1 = U64) := fun v hv => by
        have hU := u64_big
        refine ⟨fun hvs hne => ⟨by rw [hpl]; exact parB_all hn4 HFI.out v hv hvs hne, ?_, fun h0 => hvs (List.mem_singleton.1 (HFI.out.zero v hv h0))⟩, fun he => ⟨parB_none HFI.out v he _ (by omega), HFI.out.un v hv he⟩⟩
        have h1 : 0 ≤ r.S.getD v zeroS 1 ∧ r.S.getD v zeroS 1 < n := HFI.out.re v hv hne
        omega
      have hRun := HRV.out.ext hX
      have hRow := HRow.out.ext hX
      have HXw := Lib.hid (Ext.trans HXV.out hX)
      have HAL := Lib.hid hall
      have HRun := Lib.hid hRun
      have HRow := Lib.hid hRow
      have HH := Lib.hid hH
      clear hall hRun hRow hX hH HFI HRV HFV HED' HXV g1 HGH hpl c0
      generalize parB r.S F E.length = pb at *
      go_wp2
      go_loopg [16] n (fun m v wv => ∃ i : Nat, i + m = n ∧ v = .int .u32 i ∧ Ext wr wv)
      case atStart => exact ⟨0, by omega, rfl, Ext.refl _⟩
      case round =>
        obtain ⟨i, hi, rfl, hX⟩ := hrel
        have hH := HH.out.ext hX
        have hRun := HRun.out.ext hX
        have g1 := hRun.c0
        have lB := hRun.lt
        have lh := hH.lt
        by_cases hil : i < n
        · have hii : (i : Int) < (n : Int) := by omega
          have hiS : i < r.S.length := by rw [HLS.out]; exact hil
          have hwi : IntKind.u32.wrap ((i : Int) + 1) = ((i + 1 : Nat) : Int) := by rw [u32_id (by omega) (by omega)]; omega
          have hAi := (HRow.out.ext hX).at stC_size hiS
          have lg := hAi.lt
          have hgi : r.S.getD i zeroS = r.S[i] := by simp [List.getD_eq_getElem?_getD, List.getElem?_eq_getElem hiS]
          have q3 := hH.get hil
          simp only [boolV] at q3
          have hal := HAL.out i hil
          rw [hgi] at hal
          generalize r.S[i] = x at *
          have HAi := Lib.hid hAi
          have HX := Lib.hid hX
          have HAL2 := Lib.hid hal
          clear hAi hX hgi hal hH hRun
          go_upto_region 25 with (first | (refine wpList_load_at rfl 35 _ rfl _ rfl HAi.out Try.underlying35 rfl i35 ?_) | (refine wpList_store_at rfl 35 _ _ rfl rfl rfl (At.new (stC zeroS) 35 rfl) i35 rfl (stC_one _) ?_))
          have hP := keep_wput (wr.alloc (.cells (stC zeroS) 35)) wr.heap.size 0 (stC x)
          have hEV : Ext wr (wput (wr.alloc (.cells (stC zeroS) 35)) wr.heap.size 0 (stC x)) := Ext.trans' (Ext.alloc wr _) hP (by simp)
          have hAV : At (wput (wr.alloc (.cells (stC zeroS) 35)) wr.heap.size 0 (stC x)) wr.heap.size 0 (stC x) := (At.new (stC zeroS) 35 rfl).put rfl
          change Code.wp _ _ _ _ (wput (wr.alloc (.cells (stC zeroS) 35)) wr.heap.size 0 (stC x))
          generalize wput (wr.alloc (.cells (stC zeroS) 35)) wr.heap.size 0 (stC x) = V at *
          generalize wr.heap.size = bx at *
          have x0 : V.cell? ⟨bx, 0, none⟩ = some (.int .u64 (x 0)) := by simpa using hAV.cell (j := 0) (v := .int .u64 (x 0)) rfl
          have x1 : V.cell? ⟨bx, 1, none⟩ = some (.int .u64 (x 1)) := by simpa using hAV.cell (j := 1) (v := .int .u64 (x 1)) rfl
          have lb := hAV.lt
          have q3' := hEV.cell q3
          have lhV : gh < V.heap.size := by have := hEV.size; omega
          have HXV := Lib.hid (Ext.trans HX.out hEV)
          clear hP hEV hAV HAi q3 HX g1
          by_cases his : i = s
          · have hisi : (i : Int) = (s : Int) := by omega
            clear HAL2
            go_wp2
            go_roundg (gk - 1)
            case measure => omega
            case rel => exact ⟨i + 1, by omega, congrArg (Value.int .u32) (by omega), HXV.out⟩
          · have hisi : ((i : Int) == (s : Int)) = false := by simp; omega
            by_cases hxe : x 0 = U64
            · obtain ⟨h1, h2⟩ := HAL2.out.2 hxe
              rw [h1] at q3'
              have a1 : (x 0 == 18446744073709551615) = true := by simpa using show x 0 = 18446744073709551615 from hxe
              have a2 : (x 0 != 18446744073709551615) = false := by simpa using show x 0 = 18446744073709551615 from hxe
              have a3 : (x 1 == 18446744073709551615) = true := by simpa using show x 1 = 18446744073709551615 from h2
              have a4 : (x 0 == 0) = false := by
                have hU := u64_big
                simp only [beq_eq_false_iff_ne, ne_eq]; omega
              clear h1 h2 hxe HAL2
              go_upto_region 26 with fail
              refine wp_region_row 22 0 (by kernel_rfl) (by kernel_rfl) ?_
              simp only [List.take, List.drop]
              iterate 8 (refine wpHead_step (fun K hK => ?_); go_simp; (refine hK _ ?_; clear hK K))
              iterate 8 (with_reducible refine wpHead_on ?_ (fun K hK => ?_); kernel_rfl; go_simp; (refine hK _ ?_; clear hK K))
              iterate 2 (refine wpHead_step (fun K hK => ?_); go_simp; (refine hK _ ?_; clear hK K))
              iterate 3 (with_reducible refine wpHead_on ?_ (fun K hK => ?_); kernel_rfl; go_simp; (refine hK _ ?_; clear hK K))
              refine wpHead_step (fun K hK => ?_); go_simp; (refine hK _ ?_; clear hK K)
              refine wpHead_nil (wpPure_nil ?_)
              intro V4 hV4
              refine wpList_nil (nOnly_mk ?_)
              have HX4 := Lib.hid (Ext.trans HXV.out (Ext.trans (Ext.drew V) hV4))
              clear hV4 x0 x1 q3'
              go_wp2
              go_roundg (gk - 1)
              case measure => omega
              case rel => exact ⟨i + 1, by omega, congrArg (Value.int .u32) (by omega), HX4.out⟩
            · obtain ⟨h1, h2, h3⟩ := HAL2.out.1 his hxe
              rw [h1] at q3'
              have a1 : (x 0 == 18446744073709551615) = false := by simpa using show ¬ x 0 = 18446744073709551615 from hxe
              have a2 : (x 0 != 18446744073709551615) = true := by simpa using show ¬ x 0 = 18446744073709551615 from hxe
              have a3 : (x 1 == 18446744073709551615) = false := by simpa using show ¬ x 1 = 18446744073709551615 from h2
              have a4 : (x 0 == 0) = false := by simpa using h3
              clear h1 h2 h3 hxe HAL2
              go_upto_region 26 with fail
              refine wp_region_row 22 0 (by kernel_rfl) (by kernel_rfl) ?_
              simp only [List.take, List.drop]
              iterate 8 (refine wpHead_step (fun K hK => ?_); go_simp; (refine hK _ ?_; clear hK K))
              iterate 8 (with_reducible refine wpHead_on ?_ (fun K hK => ?_); kernel_rfl; go_simp; (refine hK _ ?_; clear hK K))
              iterate 2 (refine wpHead_step (fun K hK => ?_); go_simp; (refine hK _ ?_; clear hK K))
              iterate 3 (with_reducible refine wpHead_on ?_ (fun K hK => ?_); kernel_rfl; go_simp; (refine hK _ ?_; clear hK K))
              refine wpHead_step (fun K hK => ?_); go_simp; (refine hK _ ?_; clear hK K)
              refine wpHead_nil (wpPure_nil ?_)
              intro V4 hV4
              refine wpList_nil (nOnly_mk ?_)
              have HX4 := Lib.hid (Ext.trans HXV.out (Ext.trans (Ext.drew V) hV4))
              clear hV4 x0 x1 q3'
              go_wp2
              go_roundg (gk - 1)
              case measure => omega
              case rel => exact ⟨i + 1, by omega, congrArg (Value.int .u32) (by omega), HX4.out⟩
        · have hin : i = n := by omega
          have HX := Lib.hid hX
          clear hX hH hRun
          go_wp2
          go_ret
          exact ⟨rfl, Ext.trans HXw.out HX.out⟩
end Go.Proofs.Ytalpjipopipncaa
