/- The walk of reasons. Conditions: those of each theorem. -/
import Derived.Test.YtalpjipopipncaaPw3
namespace Go.Proofs.Ytalpjipopipncaa
open Go Go.RowKit

def tightB (S : List St) (f : Nat) (x : Edg) : Bool := (S.getD x.s zeroS 0 != 9223372036854775807 && wrap64 (wrap64 (S.getD x.s zeroS 0) + wtI f x.w) == wrap64 (S.getD x.d zeroS 0)) && decide (S.getD x.s zeroS 2 < S.getD x.d zeroS 2)
def heldB (S : List St) (f : Nat) (E : List Edg) : Nat → Nat → Bool
  | 0, _ => false
  | k + 1, v => if tightB S f (E.getD k ⟨0, 0, 0⟩) = true ∧ v = (E.getD k ⟨0, 0, 0⟩).d then true else heldB S f E k v
theorem heldB_mem (S : List St) (f : Nat) (E : List Edg) (x : Edg) (ht : tightB S f x = true) : ∀ k, (∃ j, j < k ∧ E.getD j ⟨0, 0, 0⟩ = x) → heldB S f E k x.d = true
  | 0, ⟨j, hj, _⟩ => by omega
  | k + 1, ⟨j, hj, he⟩ => by
    rw [heldB]
    by_cases hjk : j = k
    · subst hjk
      rw [if_pos ⟨by rw [he]; exact ht, by rw [he]⟩]
    · split
      · rfl
      · exact heldB_mem S f E x ht k ⟨j, by omega, he⟩
theorem heldB_all {S : List St} {f : Nat} {E : List Edg} {n s : Nat} (h : Reasons S E n s f) (v : Nat) (hv : v < n) (hvs : v ≠ s) (hne : S.getD v zeroS 0 ≠ ENDL) : heldB S f E E.length v = true := by
  obtain ⟨x, hx, rfl, h1, h2, h3⟩ := h.held v hv hvs hne
  obtain ⟨j, hj, rfl⟩ := List.getElem_of_mem hx
  refine heldB_mem S f E E[j] ?_ E.length ⟨j, hj, by simp [List.getD_eq_getElem?_getD, List.getElem?_eq_getElem hj]⟩
  have h1' : ¬ S.getD E[j].s zeroS 0 = 9223372036854775807 := h1
  unfold tightB
  rw [Bool.and_eq_true, Bool.and_eq_true]
  exact ⟨⟨by simpa using h1', by rw [beq_iff_eq]; exact h2⟩, by simpa using h3⟩

set_option maxRecDepth 20000 in
set_option maxHeartbeats 8000000 in
theorem reasons_any (S : List St) (n : Nat) (hS : S.length = n) (hn1 : 1 ≤ n) (hn4 : n ≤ 400) (g c : Nat) (agg ctl : St) (rounds up : Int) (s kd : Nat) (hkd : kd = 1 ∨ kd = 2) (ao : Option Addr) (cap : Nat) (E : List Edg) (hlen : E.length ≤ 9223372036854775807)
    (hE : ∀ e ∈ E, e.s < n ∧ e.d < n ∧ e.w < 4294967296) (hR : Reasons S E n s (kindF kd)) (w : World) (hRow : Row w g 35 8 stC S) (he : EdgesAt w ao E) :
    Calls Try.prog 23 #[.agg (runC (.slice (some ⟨g, 0, none⟩) n c) agg ctl rounds up), .int .u32 s, .int .i64 kd, .slice ao E.length cap] w fun e w' => e = .returned (.bool true) ∧ Ext w w' := by
  have hwt := fun w W => weight_any kd hkd w W
  generalize kindF kd = f at *
  obtain ⟨i0, hi, hz0, hz1, hz2⟩ := info_parts info4
  have hmk := fun W => run_make_rowN (P := Try.prog) 74 4 i0 _ Try.underlying74 hi hz0 .i64 .i64 n n (Nat.le_refl _) (by rw [hz2]; omega) (by omega) W
  rw [hz1] at hmk
  have HWT := Lib.hid hwt
  have HRE := Lib.hid hR
  have HED := Lib.hid hE
  have HS := Lib.hid hS
  have hXA : Ext w (w.alloc (.cells (runC (.slice (some ⟨g, 0, none⟩) n c) agg ctl rounds up) 39)) := Ext.alloc _ _
  have hRA : RunAt (w.alloc (.cells (runC (.slice (some ⟨g, 0, none⟩) n c) agg ctl rounds up) 39)) w.heap.size (.slice (some ⟨g, 0, none⟩) n c) agg ctl rounds up := heap_alloc_new w _
  have hRo := hRow.ext hXA
  have heA := he.ext hXA
  have hgl0 := hRow.lt
  clear hi hz0 hz1 hz2 hwt hR hE hS hRow he
  unfold runC
  go_enter Try.func23, Try.ntmps23
  go_upto_region 1 with fail
  change Code.wp _ _ _ _ (w.alloc (.cells (runC (.slice (some ⟨g, 0, none⟩) n c) agg ctl rounds up) 39))
  generalize w.alloc (.cells (runC (.slice (some ⟨g, 0, none⟩) n c) agg ctl rounds up) 39) = W at *
  generalize w.heap.size = B at *
  have g0 := hRA.c0
  have hBW := hRA.lt
  have H0 : Hid (RowF (W.alloc (.cells (madeCells #[.bool false] n) 4)) W.heap.size 4 boolV (fun _ => false) n) := Lib.hid (RowF.made (c := boolV) false W 4 n)
  have HXA := Lib.hid hXA
  have HRA := Lib.hid hRA
  have HRo := Lib.hid hRo
  have HEA := Lib.hid heA
  rw [Nat.mul_one] at hmk
  clear hXA hRA hRo heA
  go_wp2
  clear hmk
  generalize hgh : W.heap.size = gh at *
  have HGH := Lib.hid hgh
  clear hgh
  go_loopg [10] E.length (fun m v wr => ∃ j : Nat, j + m = E.length ∧ v = .int .i64 j ∧ Ext W wr ∧ RowF wr gh 4 boolV (heldB S f E j) n)
  case atStart => exact ⟨0, by omega, rfl, Ext.alloc _ _, H0.out⟩
  clear H0
  case round =>
    obtain ⟨j, hj, rfl, hX, hH⟩ := hrel
    have lh := hH.lt
    have lB : B < wr.heap.size := by omega
    have g1 := hX.cell g0
    by_cases hjl : j < E.length
    · have hjj : (j : Int) < (E.length : Int) := by omega
      obtain ⟨ge, rfl, hge⟩ := HEA.out (by intro h; subst h; simp at hjl)
      have hge1 := hge.ext hX
      have lge := hge1.lt
      obtain ⟨hxs, hxd, hxw⟩ := HED.out E[j] (List.getElem_mem hjl)
      have hSl := HS.out
      have hxs' : E[j].s < S.length := by omega
      have hxd' : E[j].d < S.length := by omega
      have e0 := hge1.cell hjl (j := 0) (by omega) (v := .int .u32 (E[j].s : Nat)) rfl
      have e1 := hge1.cell hjl (j := 1) (by omega) (v := .int .u32 (E[j].d : Nat)) rfl
      have e2 := hge1.cell hjl (j := 2) (by omega) (v := .int .u32 (E[j].w : Nat)) rfl
      simp only [Nat.add_zero] at e0
      have hAs := (HRo.out.ext hX).at stC_size hxs'
      have hAd := (HRo.out.ext hX).at stC_size hxd'
      have gls := hAs.lt
      have hgd : E.getD j ⟨0, 0, 0⟩ = E[j] := by simp [List.getD_eq_getElem?_getD, List.getElem?_eq_getElem hjl]
      have hgs : S.getD E[j].s zeroS = S[E[j].s] := by simp [List.getD_eq_getElem?_getD, List.getElem?_eq_getElem hxs']
      have hgt : S.getD E[j].d zeroS = S[E[j].d] := by simp [List.getD_eq_getElem?_getD, List.getElem?_eq_getElem hxd']
      have hhe : ∀ v, heldB S f E (j + 1) v = if ((S[E[j].s] 0 != 9223372036854775807 && wrap64 (wrap64 (S[E[j].s] 0) + wtI f E[j].w) == wrap64 (S[E[j].d] 0)) && decide (S[E[j].s] 2 < S[E[j].d] 2)) = true ∧ v = E[j].d then true else heldB S f E j v := fun v => by
        rw [heldB, hgd, tightB, hgs, hgt]
      generalize S[E[j].s] = us at *
      generalize S[E[j].d] = vs at *
      generalize E[j] = x at *
      have hxsi : (x.s : Int) < (n : Int) := by omega
      have hxdi : (x.d : Int) < (n : Int) := by omega
      have hcw := fun W => HWT.out x.w W
      have HCW := Lib.hid hcw
      have HHE := Lib.hid hhe
      have HX := Lib.hid hX
      have HH := Lib.hid hH
      have HAs := Lib.hid hAs
      have HAd := Lib.hid hAd
      clear hge hge1 hgd hgs hgt hhe hX hH hAs hAd hcw hSl
      go_upto_region 5 with fail
      refine wp_region_new 9 0 (by kernel_rfl) (by kernel_rfl) ?_
      simp only [List.take, List.drop]
      iterate 8 (refine wpHead_step (fun K hK => ?_); go_simp; (refine hK _ ?_; clear hK K))
      refine wpHead_load_at rfl 35 _ rfl _ rfl HAs.out.drew Try.underlying35 rfl i35 ?_
      refine wpHead_nil ?_
      refine wpPure_nil ?_
      refine fOpE_alloc35 (ho := rfl) rfl rfl (fun w3 hw3 w4 hw4 => ?_)
      have hE1 : Ext wr w4 := ((Ext.trans (Ext.drew wr) hw3).trans (Ext.alloc _ _)).trans hw4
      have hz : At w4 w3.heap.size 0 (stC zeroS) := At.ext (At.new _ _ rfl) hw4
      have hb1 : wr.heap.size ≤ w3.heap.size := by have := (Ext.trans (Ext.drew wr) hw3).size; exact this
      clear hw3 hw4
      generalize w3.heap.size = b1 at *
      clear w3
      have HZ := Lib.hid hz
      have HE1 := Lib.hid hE1
      clear hz hE1
      go_simp
      go_wp2_with (refine wpList_store_at rfl 35 _ _ rfl rfl rfl HZ.out i35 rfl (stC_one _) ?_)
      refine nOnly_mk ?_
      have hP := keep_wput w4 b1 0 (stC us)
      have hA1 := HZ.out.put (stC_size us)
      have hEV := Ext.trans' HE1.out hP (by simp; exact hb1)
      generalize wput w4 b1 0 (stC us) = V1 at *
      clear hP HZ HE1 w4
      have HV1 := Lib.hid hEV
      have HA1 := Lib.hid hA1
      have g1 := hEV.cell g1
      have e0' := hEV.cell e0
      have e1' := hEV.cell e1
      have e2' := hEV.cell e2
      have lB' : B < V1.heap.size := by have := hEV.size; omega
      have lge' : ge < V1.heap.size := by have := hEV.size; omega
      have gls' : g < V1.heap.size := by have := hEV.size; omega
      have lh' : gh < V1.heap.size := by have := hEV.size; omega
      have HAd' := Lib.hid (HAd.out.ext hEV)
      clear hEV hA1 e0 e1 e2 HAd HAs
      go_upto_region 6 with fail
      refine wp_region_new 9 0 (by kernel_rfl) (by kernel_rfl) ?_
      simp only [List.take, List.drop]
      iterate 8 (refine wpHead_step (fun K hK => ?_); go_simp; (refine hK _ ?_; clear hK K))
      refine wpHead_load_at rfl 35 _ rfl _ rfl HAd'.out.drew Try.underlying35 rfl i35 ?_
      refine wpHead_nil ?_
      refine wpPure_nil ?_
      refine fOpE_alloc35 (ho := rfl) rfl rfl (fun w3 hw3 w4 hw4 => ?_)
      have hE1 : Ext V1 w4 := ((Ext.trans (Ext.drew V1) hw3).trans (Ext.alloc _ _)).trans hw4
      have hz : At w4 w3.heap.size 0 (stC zeroS) := At.ext (At.new _ _ rfl) hw4
      have hb2 : V1.heap.size ≤ w3.heap.size := by have := (Ext.trans (Ext.drew V1) hw3).size; exact this
      clear hw3 hw4
      generalize w3.heap.size = b2 at *
      clear w3
      have HZ := Lib.hid hz
      have HE1 := Lib.hid hE1
      clear hz hE1
      go_simp
      go_wp2_with (refine wpList_store_at rfl 35 _ _ rfl rfl rfl HZ.out i35 rfl (stC_one _) ?_)
      refine nOnly_mk ?_
      have hP := keep_wput w4 b2 0 (stC vs)
      have hA2 := HZ.out.put (stC_size vs)
      have hEV := Ext.trans' HE1.out hP (by simp; exact hb2)
      generalize wput w4 b2 0 (stC vs) = V2 at *
      clear hP HZ HE1 w4
      have hA1' := HA1.out.ext hEV
      have hX2 := Ext.trans HV1.out hEV
      have e1'' := hEV.cell e1'
      have e2'' := hEV.cell e2'
      have u0 : V2.cell? ⟨b1, 0, none⟩ = some (.int .u64 (us 0)) := by simpa using hA1'.cell (j := 0) (v := .int .u64 (us 0)) rfl
      have u2 : V2.cell? ⟨b1, 2, none⟩ = some (.int .u64 (us 2)) := by simpa using hA1'.cell (j := 2) (v := .int .u64 (us 2)) rfl
      have v0 : V2.cell? ⟨b2, 0, none⟩ = some (.int .u64 (vs 0)) := by simpa using hA2.cell (j := 0) (v := .int .u64 (vs 0)) rfl
      have v2 : V2.cell? ⟨b2, 2, none⟩ = some (.int .u64 (vs 2)) := by simpa using hA2.cell (j := 2) (v := .int .u64 (vs 2)) rfl
      have l1 := hA1'.lt
      have l2 := hA2.lt
      have lge2 : ge < V2.heap.size := by have := hEV.size; omega
      have lh2 : gh < V2.heap.size := by have := hEV.size; omega
      have HX2 := Lib.hid hX2
      clear hA1' hA2 hEV hX2 HA1 HV1 HAd' e0' e1' e2' g1 lB' lge' gls' lh'
      have hi1 := i64_wrap (us 0)
      have hi2 := i64_wrap (wrap64 (us 0) + wtI f x.w)
      have hi3 := i64_wrap (vs 0)
      have hq2 : (IntKind.i64.wrap (IntKind.i64.wrap (us 0) + wtI f x.w) == IntKind.i64.wrap (vs 0)) = (wrap64 (wrap64 (us 0) + wtI f x.w) == wrap64 (vs 0)) := by rw [hi1, hi2, hi3]
      clear hi1 hi2 hi3
      generalize hb1 : (us 0 != 9223372036854775807) = b1' at *
      generalize hb2 : (wrap64 (wrap64 (us 0) + wtI f x.w) == wrap64 (vs 0)) = b2' at *
      clear hb2
      generalize wtI f x.w = wt at *
      cases b1' with
      | false =>
        have HNO := Lib.hid (show ¬ ((false && b2') && decide (us 2 < vs 2)) = true by simp)
        clear hq2
        go_upto_region 7 with fail
        refine wp_region_row 27 0 (by kernel_rfl) (by kernel_rfl) ?_
        simp only [List.take, List.drop]
        iterate 4 (refine wpHead_step (fun K hK => ?_); go_simp; (refine hK _ ?_; clear hK K))
        iterate 15 (with_reducible refine wpHead_off ?_ ?_; kernel_rfl)
        iterate 2 (refine wpHead_step (fun K hK => ?_); go_simp; (refine hK _ ?_; clear hK K))
        iterate 5 (with_reducible refine wpHead_off ?_ ?_; kernel_rfl)
        iterate 1 (refine wpHead_step (fun K hK => ?_); go_simp; (refine hK _ ?_; clear hK K))
        refine wpHead_nil (wpPure_nil ?_)
        intro V3 hV3
        refine wpList_nil (nOnly_mk ?_)
        have HX3 := Lib.hid (Ext.trans HX2.out (Ext.trans (Ext.drew V2) hV3))
        clear hV3 e1'' e2'' u0 u2 v0 v2
        go_wp2
        go_roundg (gk - 1)
        case measure => omega
        case rel => exact ⟨j + 1, by omega, by go_num, Ext.trans HX.out HX3.out, (HH.out.ext HX3.out).congr fun v hv => by rw [HHE.out v, if_neg (fun h => HNO.out h.1)]⟩
      | true =>
        cases b2' with
        | false =>
          have HNO := Lib.hid (show ¬ ((true && false) && decide (us 2 < vs 2)) = true by simp)
          go_upto_region 7 with fail
          refine wp_region_row 27 0 (by kernel_rfl) (by kernel_rfl) ?_
          simp only [List.take, List.drop]
          iterate 4 (refine wpHead_step (fun K hK => ?_); go_simp; (refine hK _ ?_; clear hK K))
          iterate 9 (with_reducible refine wpHead_on ?_ (fun K hK => ?_); kernel_rfl; go_simp; (refine hK _ ?_; clear hK K))
          with_reducible refine wpHead_on ?_ (fun K hK => ?_)
          kernel_rfl
          go_simp
          (apply Exists.intro; refine ⟨fun W1 => ?_, hK _ ?_⟩)
          · exact HCW.out _
          clear hK K
          iterate 5 (with_reducible refine wpHead_on ?_ (fun K hK => ?_); kernel_rfl; go_simp; (refine hK _ ?_; clear hK K))
          iterate 2 (refine wpHead_step (fun K hK => ?_); go_simp; (refine hK _ ?_; clear hK K))
          iterate 5 (with_reducible refine wpHead_off ?_ ?_; kernel_rfl)
          iterate 1 (refine wpHead_step (fun K hK => ?_); go_simp; (refine hK _ ?_; clear hK K))
          refine wpHead_nil (wpPure_nil ?_)
          intro V3 hV3
          refine wpList_nil (nOnly_mk ?_)
          have HX3 := Lib.hid (Ext.trans HX2.out (Ext.trans (Ext.drew V2) hV3))
          clear hV3 e1'' e2'' u0 u2 v0 v2
          go_wp2
          go_roundg (gk - 1)
          case measure => omega
          case rel => exact ⟨j + 1, by omega, by go_num, Ext.trans HX.out HX3.out, (HH.out.ext HX3.out).congr fun v hv => by rw [HHE.out v, if_neg (fun h => HNO.out h.1)]⟩
        | true =>
          by_cases hb3 : us 2 < vs 2
          · have HYES := Lib.hid (show ((true && true) && decide (us 2 < vs 2)) = true by simp [hb3])
            go_upto_region 7 with fail
            refine wp_region_row 27 0 (by kernel_rfl) (by kernel_rfl) ?_
            simp only [List.take, List.drop]
            iterate 4 (refine wpHead_step (fun K hK => ?_); go_simp; (refine hK _ ?_; clear hK K))
            iterate 9 (with_reducible refine wpHead_on ?_ (fun K hK => ?_); kernel_rfl; go_simp; (refine hK _ ?_; clear hK K))
            with_reducible refine wpHead_on ?_ (fun K hK => ?_)
            kernel_rfl
            go_simp
            (apply Exists.intro; refine ⟨fun W1 => ?_, hK _ ?_⟩)
            · exact HCW.out _
            clear hK K
            iterate 5 (with_reducible refine wpHead_on ?_ (fun K hK => ?_); kernel_rfl; go_simp; (refine hK _ ?_; clear hK K))
            iterate 2 (refine wpHead_step (fun K hK => ?_); go_simp; (refine hK _ ?_; clear hK K))
            iterate 5 (with_reducible refine wpHead_on ?_ (fun K hK => ?_); kernel_rfl; go_simp; (refine hK _ ?_; clear hK K))
            iterate 1 (refine wpHead_step (fun K hK => ?_); go_simp; (refine hK _ ?_; clear hK K))
            refine wpHead_nil (wpPure_nil ?_)
            intro V3 hV3
            refine wpList_nil (nOnly_mk ?_)
            have hE3 := Ext.trans (Ext.drew V2) hV3
            have hX3 := Ext.trans HX2.out hE3
            have e1 := hE3.cell e1''
            have hH3 := HH.out.ext hX3
            have q3 := hH3.get hxd
            have fz := hH3.frozen x.d
            have lh3 := hH3.lt
            have lge3 : ge < V3.heap.size := by have := hE3.size; omega
            simp only [boolV] at q3
            have HH4 := Lib.hid (hH3.set hxd true)
            have HX4 := Lib.hid (Ext.trans' (Ext.trans HX.out hX3) (Keep.setCell (S := [gh]) (Keep.refl [gh] V3) (p := ⟨gh, x.d, none⟩) (.inl (by simp)) (boolV true)) (by simp; exact Nat.le_of_eq HGH.out))
            clear hV3 hE3 hX3 hH3 e1'' e2'' u0 u2 v0 v2
            go_wp2
            go_roundg (gk - 1)
            case measure => omega
            case rel => exact ⟨j + 1, by omega, by go_num, HX4.out, HH4.out.congr fun v hv => by
              rw [HHE.out v]
              by_cases hvd : v = x.d
              · rw [if_pos hvd, if_pos ⟨HYES.out, hvd⟩]
              · rw [if_neg hvd, if_neg (fun h => hvd h.2)]⟩
          · have HNO := Lib.hid (show ¬ ((true && true) && decide (us 2 < vs 2)) = true by simp; omega)
            go_upto_region 7 with fail
            refine wp_region_row 27 0 (by kernel_rfl) (by kernel_rfl) ?_
            simp only [List.take, List.drop]
            iterate 4 (refine wpHead_step (fun K hK => ?_); go_simp; (refine hK _ ?_; clear hK K))
            iterate 9 (with_reducible refine wpHead_on ?_ (fun K hK => ?_); kernel_rfl; go_simp; (refine hK _ ?_; clear hK K))
            with_reducible refine wpHead_on ?_ (fun K hK => ?_)
            kernel_rfl
            go_simp
            (apply Exists.intro; refine ⟨fun W1 => ?_, hK _ ?_⟩)
            · exact HCW.out _
            clear hK K
            iterate 5 (with_reducible refine wpHead_on ?_ (fun K hK => ?_); kernel_rfl; go_simp; (refine hK _ ?_; clear hK K))
            iterate 2 (refine wpHead_step (fun K hK => ?_); go_simp; (refine hK _ ?_; clear hK K))
            iterate 5 (with_reducible refine wpHead_on ?_ (fun K hK => ?_); kernel_rfl; go_simp; (refine hK _ ?_; clear hK K))
            iterate 1 (refine wpHead_step (fun K hK => ?_); go_simp; (refine hK _ ?_; clear hK K))
            refine wpHead_nil (wpPure_nil ?_)
            intro V3 hV3
            refine wpList_nil (nOnly_mk ?_)
            have HX3 := Lib.hid (Ext.trans HX2.out (Ext.trans (Ext.drew V2) hV3))
            clear hV3 e1'' e2'' u0 u2 v0 v2
            go_wp2
            go_roundg (gk - 1)
            case measure => omega
            case rel => exact ⟨j + 1, by omega, by go_num, Ext.trans HX.out HX3.out, (HH.out.ext HX3.out).congr fun v hv => by rw [HHE.out v, if_neg (fun h => HNO.out h.1)]⟩
    · have hjE : j = E.length := by omega
      subst hjE
      have hall := heldB_all HRE.out
      have hRun := HRA.out.ext hX
      have hRow := HRo.out.ext hX
      have HXw := Lib.hid (Ext.trans HXA.out hX)
      have HAL := Lib.hid hall
      have HNN := Lib.hid HRE.out.none
      have HRun := Lib.hid hRun
      have HRow := Lib.hid hRow
      have HH := Lib.hid hH
      clear hall hRun hRow hX hH HRE HRA HRo HEA HED HWT HXA g0 HGH
      generalize heldB S f E E.length = hb at *
      go_wp2
      go_loopg [13] n (fun m v wv => ∃ i : Nat, i + m = n ∧ v = .int .i64 i ∧ Ext wr wv)
      case atStart => exact ⟨0, by omega, rfl, Ext.refl _⟩
      case round =>
        obtain ⟨i, hi, rfl, hX⟩ := hrel
        have hH := HH.out.ext hX
        have hRun := HRun.out.ext hX
        have g1 := hRun.c0
        have lB := hRun.lt
        have lh := hH.lt
        by_cases hil : i < n
        · have hii : (i : Int) < (n : Int) := by omega
          have hiS : i < S.length := by rw [HS.out]; exact hil
          have hwk : IntKind.u32.wrap (i : Int) = (i : Int) := u32_id (by omega) (by omega)
          have hAi := (HRow.out.ext hX).at stC_size hiS
          have lg := hAi.lt
          have hgi : S.getD i zeroS = S[i] := by simp [List.getD_eq_getElem?_getD, List.getElem?_eq_getElem hiS]
          have q3 := hH.get hil
          simp only [boolV] at q3
          have hal := HAL.out i hil
          have hno := HNN.out i hil
          rw [hgi] at hal hno
          generalize S[i] = x at *
          have HAi := Lib.hid hAi
          have HX := Lib.hid hX
          have HAL2 := Lib.hid hal
          have HNO2 := Lib.hid hno
          clear hAi hX hgi hal hno hH hRun
          go_upto_region 13 with (first | (refine wpList_load_at rfl 35 _ rfl _ rfl HAi.out Try.underlying35 rfl i35 ?_) | (refine wpList_store_at rfl 35 _ _ rfl rfl rfl (At.new (stC zeroS) 35 rfl) i35 rfl (stC_one _) ?_))
          have hP := keep_wput (wr.alloc (.cells (stC zeroS) 35)) wr.heap.size 0 (stC x)
          have hEV : Ext wr (wput (wr.alloc (.cells (stC zeroS) 35)) wr.heap.size 0 (stC x)) := Ext.trans' (Ext.alloc wr _) hP (by simp)
          have hAV : At (wput (wr.alloc (.cells (stC zeroS) 35)) wr.heap.size 0 (stC x)) wr.heap.size 0 (stC x) := (At.new (stC zeroS) 35 rfl).put rfl
          change Code.wp _ _ _ _ (wput (wr.alloc (.cells (stC zeroS) 35)) wr.heap.size 0 (stC x))
          generalize wput (wr.alloc (.cells (stC zeroS) 35)) wr.heap.size 0 (stC x) = V at *
          generalize wr.heap.size = bx at *
          have x0 : V.cell? ⟨bx, 0, none⟩ = some (.int .u64 (x 0)) := by simpa using hAV.cell (j := 0) (v := .int .u64 (x 0)) rfl
          have x2 : V.cell? ⟨bx, 2, none⟩ = some (.int .u64 (x 2)) := by simpa using hAV.cell (j := 2) (v := .int .u64 (x 2)) rfl
          have lb := hAV.lt
          have q3' := hEV.cell q3
          have lhV : gh < V.heap.size := by have := hEV.size; omega
          have HXV := Lib.hid (Ext.trans HX.out hEV)
          clear hP hEV hAV HAi q3 HX g1
          by_cases his : i = s
          · have hz := HNO2.out (.inl his)
            have hisi : (i : Int) = (s : Int) := by omega
            clear HAL2 HNO2
            go_wp2
            go_roundg (gk - 1)
            case measure => omega
            case rel => exact ⟨i + 1, by omega, by go_num, HXV.out⟩
          · have hisi : ¬ (i : Int) = (s : Int) := by omega
            by_cases hxe : x 0 = ENDL
            · have hz := HNO2.out (.inr hxe)
              simp only [ENDL] at hxe
              clear HAL2 HNO2
              go_wp2
              go_roundg (gk - 1)
              case measure => omega
              case rel => exact ⟨i + 1, by omega, by go_num, HXV.out⟩
            · have hz := HAL2.out his hxe
              rw [hz] at q3'
              have hxe2 : (x 0 == 9223372036854775807) = false := by simpa using show ¬ x 0 = 9223372036854775807 from hxe
              have his2 : ((i : Int) == (s : Int)) = false := by simpa using hisi
              clear hz hxe hisi
              clear HAL2 HNO2
              go_wp2
              go_roundg (gk - 1)
              case measure => omega
              case rel => exact ⟨i + 1, by omega, by go_num, HXV.out⟩
        · have hin : i = n := by omega
          have HX := Lib.hid hX
          clear hX hH hRun
          go_wp2
          go_ret
          exact ⟨rfl, Ext.trans HXw.out HX.out⟩
end Go.Proofs.Ytalpjipopipncaa
