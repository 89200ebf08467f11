/- The walk of the reference's BFS. Conditions: those of each theorem. -/
import Derived.Test.YtalpjipopipncaaRb3
namespace Go.Proofs.Ytalpjipopipncaa
open Go Go.RowKit

/-- Does this edge make its end's level? -/
def Tight (L : Nat → Int) (s : Nat) (x : Edg) : Prop := L x.s ≠ U64 ∧ x.d ≠ s ∧ L x.d = L x.s + 1
/-- From whom, by the first k edges. -/
noncomputable def pmF (E : List Edg) (s : Nat) (L : Nat → Int) : Nat → Nat → Int
  | 0, v => if v = s then (s : Int) else U64
  | k + 1, v => open Classical in if (Tight L s (E.getD k ⟨0, 0, 0⟩) ∧ ((E.getD k ⟨0, 0, 0⟩).s : Int) < pmF E s L k (E.getD k ⟨0, 0, 0⟩).d) ∧ v = (E.getD k ⟨0, 0, 0⟩).d then ((E.getD k ⟨0, 0, 0⟩).s : Int) else pmF E s L k v
section
variable {E : List Edg} {n s : Nat} {L P : Nat → Int}
theorem pmF_is (v : Nat) : ∀ k, k ≤ E.length → pmF E s L k v = (if v = s then (s : Int) else U64) ∨ ∃ x ∈ E, Tight L s x ∧ x.d = v ∧ pmF E s L k v = (x.s : Int)
  | 0, _ => .inl rfl
  | k + 1, hk => by
    rw [pmF]
    split
    · rename_i h
      exact .inr ⟨_, getD_mem (show k < E.length by omega), h.1.1, h.2.symm, rfl⟩
    · exact pmF_is v k (by omega)
theorem pmF_low (j : Nat) (hj : Tight L s (E.getD j ⟨0, 0, 0⟩)) : ∀ k, j < k → pmF E s L k (E.getD j ⟨0, 0, 0⟩).d ≤ ((E.getD j ⟨0, 0, 0⟩).s : Int)
  | 0, h => by omega
  | k + 1, h => by
    rw [pmF]
    by_cases hjk : j = k
    · subst hjk
      split
      · exact Int.le_refl _
      · rename_i h1
        refine Int.not_lt.1 fun hc => h1 ⟨⟨hj, hc⟩, rfl⟩
    · have ih := pmF_low j hj k (by omega)
      split
      · rename_i h1
        have h2 := h1.1.2
        rw [← h1.2] at h2
        omega
      · exact ih
theorem pmF_fin (hE : ∀ x ∈ E, x.s < n ∧ x.d < n) (hn : n ≤ 400) (h : SpFin E n [s] false L P) (v : Nat) (hv : v < n) : pmF E s L E.length v = P v := by
  have hU := u64_big
  have h1 := pmF_is (E := E) (s := s) (L := L) v E.length (Nat.le_refl _)
  by_cases hvs : v = s
  · subst hvs
    rw [if_pos rfl] at h1
    rw [(h.src v hv (List.mem_singleton.2 rfl)).2]
    rcases h1 with h1 | ⟨x, _, ht, hd, _⟩
    · exact h1
    · exact absurd hd ht.2.1
  · rw [if_neg hvs] at h1
    by_cases hl : L v = U64
    · rw [h.un v hv hl]
      rcases h1 with h1 | ⟨x, hx, ht, hd, _⟩
      · exact h1
      · have := (h.edge x hx ht.1).1
        rw [hd] at this
        exact absurd hl this
    · obtain ⟨x, hx, hd, h2, h3⟩ := h.held v hv hl (fun hc => hvs (List.mem_singleton.1 hc))
      have h3 : P v = (x.s : Int) := h3
      have hlv := h.lv v hv
      have hxs := (hE x hx).1
      have ht : Tight L s x := ⟨by omega, by rw [hd]; exact hvs, by rw [hd]; exact h2.symm⟩
      obtain ⟨j, hj, rfl⟩ := List.getElem_of_mem hx
      have hgj : E.getD j ⟨0, 0, 0⟩ = E[j] := by simp [List.getD_eq_getElem?_getD, List.getElem?_eq_getElem hj]
      have h4 := pmF_low (E := E) (s := s) (L := L) j (by rw [hgj]; exact ht) E.length hj
      rw [hgj, hd] at h4
      rcases h1 with h1 | ⟨y, hy, ht2, hd2, h5⟩
      · omega
      · have h6 : P y.d ≤ (y.s : Int) := h.least y hy ht2.1 ht2.2.2
        rw [hd2] at h6
        omega
end

set_option maxRecDepth 20000 in
set_option maxHeartbeats 4000000 in
theorem refBFS_any (n s : Nat) (hn1 : 1 ≤ n) (hn4 : n ≤ 400) (hs : s < n) (ao : Option Addr) (cap : Nat) (E : List Edg) (hlen : E.length ≤ 11728124029269) (hE : ∀ e ∈ E, e.s < n ∧ e.d < n ∧ e.w < 4294967296)
    (L P : Nat → Int) (hF : SpFin E n [s] false L P) (w : World) (he : EdgesAt w ao E) :
    Calls Try.prog 28 #[.int .u32 n, .int .u32 s, .slice ao E.length cap] w fun e w' => ∃ gL gP : Nat, e = .returned (.tuple #[.slice (some ⟨gL, 0, none⟩) n n, .slice (some ⟨gP, 0, none⟩) n n]) ∧ Ext w w' ∧ RowF w' gL 33 u64V L n ∧ RowF w' gP 33 u64V P n := by
  have hEd : ∀ x ∈ E, x.s < n ∧ x.d < n := fun x hx => ⟨(hE x hx).1, (hE x hx).2.1⟩
  have hR : Row (w.alloc (.cells #[.int .u32 s] 25)) w.heap.size 25 1 u32C [s] := by
    refine ⟨#[.int .u32 s], heap_alloc_new w _, by simp, fun i hi j hj => ?_⟩
    obtain rfl : i = 0 := by simp at hi; omega
    obtain rfl : j = 0 := by omega
    rfl
  have HLV := Lib.hid (levels_any n hn4 [s] 1 rfl (by omega) (by simpa using hs) w.heap.size 1 ao cap E hlen hE L hF.levD (w.alloc (.cells #[.int .u32 s] 25)) (he.ext (Ext.alloc _ _)) hR)
  have HP := Lib.hid (fun v (hv : v < n) => pmF_fin hEd hn4 hF v hv)
  have HL := Lib.hid hF.lv
  have HE := Lib.hid he
  have HED := Lib.hid hE
  clear hF he hE hEd hR
  go_enter Try.func28, Try.ntmps28
  go_wp2_with fail
  go_at_call 42
  refine HLV.out.mono ?_
  rintro e w1 ⟨gL, rfl, hX1, hgL, hrL⟩
  have hgL1 : w.heap.size ≤ gL := by simp at hgL; omega
  have HX1 := Lib.hid (show Ext w w1 from Ext.trans (Ext.alloc _ _) hX1)
  have HRL := Lib.hid hrL
  clear hX1 hgL hrL HLV
  go_wp2_with fail
  go_at_call 43
  refine (none_any n hn4 w1).mono ?_
  rintro e w2 ⟨gP, rfl, hX2, hgP, hrP⟩
  have hwu : IntKind.u64.wrap (s : Int) = (s : Int) := by rw [u64_eq]; omega
  have hsi : (s : Int) < (n : Int) := by omega
  have lP := hrP.lt
  have fz := hrP.frozen s
  have q0 := hrP.get hs
  simp only [u64V] at q0
  have HS : Hid (RowF (w2.setCell ⟨gP, s, none⟩ (.int .u64 s)) gP 33 u64V (pmF E s L 0) n) := Lib.hid ((hrP.set hs (s : Int)).congr (f' := pmF E s L 0) fun v _ => rfl)
  have hlL := HRL.out.lt
  have hKS := Keep.setCell (S := [gP]) (Keep.refl [gP] w2) (p := ⟨gP, s, none⟩) (.inl (by simp)) (.int .u64 (s : Int))
  have hws : w.heap.size ≤ w1.heap.size := HX1.out.size
  have HXW := Lib.hid (Ext.trans' (Ext.trans HX1.out hX2) hKS (by simp; omega))
  have HRL2 := Lib.hid ((HRL.out.ext hX2).keep hKS (by simp; omega))
  clear hX2 hrP hKS HX1 HRL
  go_upto_region 4 with fail
  change Code.wp _ _ _ _ (w2.setCell ⟨gP, s, none⟩ (.int .u64 s))
  generalize w2.setCell ⟨gP, s, none⟩ (.int .u64 s) = W at *
  clear lP fz q0 hwu hsi
  go_wp2
  go_loopg [10] E.length (fun m v wr => ∃ j : Nat, j + m = E.length ∧ v = .int .i64 j ∧ Keep [gP] W wr ∧ RowF wr gP 33 u64V (pmF E s L j) n)
  case atStart => exact ⟨0, by omega, rfl, Keep.refl _ _, HS.out⟩
  clear HS
  case round =>
    obtain ⟨j, hj, rfl, hK, hP⟩ := hrel
    have hrL := HRL2.out.keep hK (by simp; omega)
    have lL := hrL.lt
    have lP := hP.lt
    by_cases hjl : j < E.length
    · have hjj : (j : Int) < (E.length : Int) := by omega
      obtain ⟨ge, rfl, hge⟩ := HE.out (by intro h; subst h; simp at hjl)
      have hgeP : ge ≠ gP := by have := hge.lt; omega
      have hge1 := (hge.ext HXW.out).keep hK (by simp; exact hgeP)
      have lge := hge1.lt
      obtain ⟨hxs, hxd, hxw⟩ := HED.out E[j] (List.getElem_mem hjl)
      have e0 := hge1.cell hjl (j := 0) (by omega) (v := .int .u32 (E[j].s : Nat)) rfl
      have e1 := hge1.cell hjl (j := 1) (by omega) (v := .int .u32 (E[j].d : Nat)) rfl
      simp only [Nat.add_zero] at e0
      have hgd : E.getD j ⟨0, 0, 0⟩ = E[j] := by simp [List.getD_eq_getElem?_getD, List.getElem?_eq_getElem hjl]
      have hpm : ∀ v, pmF E s L (j + 1) v = open Classical in if (Tight L s E[j] ∧ (E[j].s : Int) < pmF E s L j E[j].d) ∧ v = E[j].d then (E[j].s : Int) else pmF E s L j v := fun v => by
        rw [pmF, hgd]
      generalize E[j] = x at *
      have hxsi : (x.s : Int) < (n : Int) := by omega
      have hxdi : (x.d : Int) < (n : Int) := by omega
      have q1 := hrL.get hxs
      have q2 := hrL.get hxd
      have q3 := hP.get hxd
      have fz := hP.frozen x.d
      simp only [u64V] at q1 q2 q3
      have hls := HL.out x.s hxs
      have hwx : IntKind.u64.wrap (x.s : Int) = (x.s : Int) := by rw [u64_eq]; omega
      have HPM := Lib.hid hpm
      have HK := Lib.hid hK
      have HPP := Lib.hid hP
      have HLS := Lib.hid hls
      clear hge hge1 hrL hK hP hpm hgd hls
      go_upto_region 9 with fail
      by_cases h1 : L x.s = U64
      · have b1 : (L x.s != 18446744073709551615) = false := by simpa using show L x.s = 18446744073709551615 from h1
        have HNO : Hid (¬ (Tight L s x ∧ (x.s : Int) < pmF E s L j x.d)) := Lib.hid (fun hc => hc.1.1 h1)
        clear h1
        refine wp_region_row 31 0 (by kernel_rfl) (by kernel_rfl) ?_
        simp only [List.take, List.drop]
        iterate 6 (refine wpHead_step (fun K hK => ?_); go_simp; (refine hK _ ?_; clear hK K))
        iterate 3 (with_reducible refine wpHead_off ?_ ?_; kernel_rfl)
        iterate 2 (refine wpHead_step (fun K hK => ?_); go_simp; (refine hK _ ?_; clear hK K))
        iterate 10 (with_reducible refine wpHead_off ?_ ?_; kernel_rfl)
        iterate 2 (refine wpHead_step (fun K hK => ?_); go_simp; (refine hK _ ?_; clear hK K))
        iterate 7 (with_reducible refine wpHead_off ?_ ?_; kernel_rfl)
        iterate 1 (refine wpHead_step (fun K hK => ?_); go_simp; (refine hK _ ?_; clear hK K))
        refine wpHead_nil (wpPure_nil ?_)
        intro V hV
        refine wpList_nil (nOnly_mk ?_)
        have hE1 := Ext.trans (Ext.drew wr) hV
        have HKV := Lib.hid (HK.out.transE hE1)
        have HPV := Lib.hid ((HPP.out.ext hE1).congr (f' := pmF E s L (j + 1)) fun v _ => by rw [HPM.out v, if_neg (fun hc => HNO.out hc.1)])
        clear hV hE1 q1 q2 q3 e0 e1 fz HK HPP HPM
        go_wp2
        go_roundg (gk - 1)
        case measure => omega
        case rel => exact ⟨j + 1, by omega, by go_num, HKV.out, HPV.out⟩
      · have b1 : (L x.s != 18446744073709551615) = true := by simpa using show ¬ L x.s = 18446744073709551615 from h1
        have hls := HLS.out.resolve_left h1
        have hwu : IntKind.u64.wrap (L x.s + 1) = L x.s + 1 := by rw [u64_eq]; omega
        clear hls
        by_cases h2 : x.d = s
        · have b2 : ((x.d : Int) != (s : Int)) = false := by simp [h2]
          have HNO : Hid (¬ (Tight L s x ∧ (x.s : Int) < pmF E s L j x.d)) := Lib.hid (fun hc => hc.1.2.1 h2)
          clear h1 h2
          refine wp_region_row 31 0 (by kernel_rfl) (by kernel_rfl) ?_
          simp only [List.take, List.drop]
          iterate 6 (refine wpHead_step (fun K hK => ?_); go_simp; (refine hK _ ?_; clear hK K))
          iterate 3 (with_reducible refine wpHead_on ?_ (fun K hK => ?_); kernel_rfl; go_simp; (refine hK _ ?_; clear hK K))
          iterate 2 (refine wpHead_step (fun K hK => ?_); go_simp; (refine hK _ ?_; clear hK K))
          iterate 10 (with_reducible refine wpHead_off ?_ ?_; kernel_rfl)
          iterate 2 (refine wpHead_step (fun K hK => ?_); go_simp; (refine hK _ ?_; clear hK K))
          iterate 7 (with_reducible refine wpHead_off ?_ ?_; kernel_rfl)
          iterate 1 (refine wpHead_step (fun K hK => ?_); go_simp; (refine hK _ ?_; clear hK K))
          refine wpHead_nil (wpPure_nil ?_)
          intro V hV
          refine wpList_nil (nOnly_mk ?_)
          have hE1 := Ext.trans (Ext.drew wr) hV
          have HKV := Lib.hid (HK.out.transE hE1)
          have HPV := Lib.hid ((HPP.out.ext hE1).congr (f' := pmF E s L (j + 1)) fun v _ => by rw [HPM.out v, if_neg (fun hc => HNO.out hc.1)])
          clear hV hE1 q1 q2 q3 e0 e1 fz HK HPP HPM
          go_wp2
          go_roundg (gk - 1)
          case measure => omega
          case rel => exact ⟨j + 1, by omega, by go_num, HKV.out, HPV.out⟩
        · have b2 : ((x.d : Int) != (s : Int)) = true := by simp; omega
          by_cases h3 : L x.d = L x.s + 1
          · have b3 : (L x.d == L x.s + 1) = true := by simpa using h3
            by_cases h4 : (x.s : Int) < pmF E s L j x.d
            · have HYES : Hid (Tight L s x ∧ (x.s : Int) < pmF E s L j x.d) := Lib.hid ⟨⟨h1, h2, h3⟩, h4⟩
              clear h1 h2 h3
              refine wp_region_row 31 0 (by kernel_rfl) (by kernel_rfl) ?_
              simp only [List.take, List.drop]
              iterate 6 (refine wpHead_step (fun K hK => ?_); go_simp; (refine hK _ ?_; clear hK K))
              iterate 3 (with_reducible refine wpHead_on ?_ (fun K hK => ?_); kernel_rfl; go_simp; (refine hK _ ?_; clear hK K))
              iterate 2 (refine wpHead_step (fun K hK => ?_); go_simp; (refine hK _ ?_; clear hK K))
              iterate 10 (with_reducible refine wpHead_on ?_ (fun K hK => ?_); kernel_rfl; go_simp; (refine hK _ ?_; clear hK K))
              iterate 2 (refine wpHead_step (fun K hK => ?_); go_simp; (refine hK _ ?_; clear hK K))
              iterate 7 (with_reducible refine wpHead_on ?_ (fun K hK => ?_); kernel_rfl; go_simp; (refine hK _ ?_; clear hK K))
              iterate 1 (refine wpHead_step (fun K hK => ?_); go_simp; (refine hK _ ?_; clear hK K))
              refine wpHead_nil (wpPure_nil ?_)
              intro V hV
              refine wpList_nil (nOnly_mk ?_)
              have hE1 := Ext.trans (Ext.drew wr) hV
              have hP1 := HPP.out.ext hE1
              have q3 := hP1.get hxd
              have fz := hP1.frozen x.d
              have lP1 := hP1.lt
              simp only [u64V] at q3
              have HPV := Lib.hid ((hP1.set hxd (x.s : Int)).congr (f' := pmF E s L (j + 1)) fun v _ => by
                rw [HPM.out v]
                by_cases hvd : v = x.d
                · rw [if_pos hvd, if_pos ⟨HYES.out, hvd⟩]
                · rw [if_neg hvd, if_neg (fun hc => hvd hc.2)])
              have HKV := Lib.hid (Keep.setCell (HK.out.transE hE1) (p := ⟨gP, x.d, none⟩) (.inl (by simp)) (.int .u64 (x.s : Int)))
              clear hV hE1 hP1 q1 q2 e0 e1 HK HPP HPM
              go_wp2
              go_roundg (gk - 1)
              case measure => omega
              case rel => exact ⟨j + 1, by omega, by go_num, HKV.out, HPV.out⟩
            · have HNO : Hid (¬ (Tight L s x ∧ (x.s : Int) < pmF E s L j x.d)) := Lib.hid (fun hc => h4 hc.2)
              clear h1 h2 h3
              refine wp_region_row 31 0 (by kernel_rfl) (by kernel_rfl) ?_
              simp only [List.take, List.drop]
              iterate 6 (refine wpHead_step (fun K hK => ?_); go_simp; (refine hK _ ?_; clear hK K))
              iterate 3 (with_reducible refine wpHead_on ?_ (fun K hK => ?_); kernel_rfl; go_simp; (refine hK _ ?_; clear hK K))
              iterate 2 (refine wpHead_step (fun K hK => ?_); go_simp; (refine hK _ ?_; clear hK K))
              iterate 10 (with_reducible refine wpHead_on ?_ (fun K hK => ?_); kernel_rfl; go_simp; (refine hK _ ?_; clear hK K))
              iterate 2 (refine wpHead_step (fun K hK => ?_); go_simp; (refine hK _ ?_; clear hK K))
              iterate 7 (with_reducible refine wpHead_on ?_ (fun K hK => ?_); kernel_rfl; go_simp; (refine hK _ ?_; clear hK K))
              iterate 1 (refine wpHead_step (fun K hK => ?_); go_simp; (refine hK _ ?_; clear hK K))
              refine wpHead_nil (wpPure_nil ?_)
              intro V hV
              refine wpList_nil (nOnly_mk ?_)
              have hE1 := Ext.trans (Ext.drew wr) hV
              have HKV := Lib.hid (HK.out.transE hE1)
              have HPV := Lib.hid ((HPP.out.ext hE1).congr (f' := pmF E s L (j + 1)) fun v _ => by rw [HPM.out v, if_neg (fun hc => HNO.out hc.1)])
              clear hV hE1 q1 q2 q3 e0 e1 fz HK HPP HPM
              go_wp2
              go_roundg (gk - 1)
              case measure => omega
              case rel => exact ⟨j + 1, by omega, by go_num, HKV.out, HPV.out⟩
          · have b3 : (L x.d == L x.s + 1) = false := by simpa using h3
            have HNO : Hid (¬ (Tight L s x ∧ (x.s : Int) < pmF E s L j x.d)) := Lib.hid (fun hc => h3 hc.1.2.2)
            clear h1 h2 h3
            refine wp_region_row 31 0 (by kernel_rfl) (by kernel_rfl) ?_
            simp only [List.take, List.drop]
            iterate 6 (refine wpHead_step (fun K hK => ?_); go_simp; (refine hK _ ?_; clear hK K))
            iterate 3 (with_reducible refine wpHead_on ?_ (fun K hK => ?_); kernel_rfl; go_simp; (refine hK _ ?_; clear hK K))
            iterate 2 (refine wpHead_step (fun K hK => ?_); go_simp; (refine hK _ ?_; clear hK K))
            iterate 10 (with_reducible refine wpHead_on ?_ (fun K hK => ?_); kernel_rfl; go_simp; (refine hK _ ?_; clear hK K))
            iterate 2 (refine wpHead_step (fun K hK => ?_); go_simp; (refine hK _ ?_; clear hK K))
            iterate 7 (with_reducible refine wpHead_off ?_ ?_; kernel_rfl)
            iterate 1 (refine wpHead_step (fun K hK => ?_); go_simp; (refine hK _ ?_; clear hK K))
            refine wpHead_nil (wpPure_nil ?_)
            intro V hV
            refine wpList_nil (nOnly_mk ?_)
            have hE1 := Ext.trans (Ext.drew wr) hV
            have HKV := Lib.hid (HK.out.transE hE1)
            have HPV := Lib.hid ((HPP.out.ext hE1).congr (f' := pmF E s L (j + 1)) fun v _ => by rw [HPM.out v, if_neg (fun hc => HNO.out hc.1)])
            clear hV hE1 q1 q2 q3 e0 e1 fz HK HPP HPM
            go_wp2
            go_roundg (gk - 1)
            case measure => omega
            case rel => exact ⟨j + 1, by omega, by go_num, HKV.out, HPV.out⟩
    · have hjE : j = E.length := by omega
      subst hjE
      have HF1 := Lib.hid hrL
      have HF2 := Lib.hid (hP.congr (f' := P) HP.out)
      have HXF := Lib.hid (Ext.trans' HXW.out hK (by simp; omega))
      clear hrL hP hK
      go_wp2
      go_ret2
      exact ⟨gL, gP, rfl, HXF.out, HF1.out, HF2.out⟩
end Go.Proofs.Ytalpjipopipncaa
