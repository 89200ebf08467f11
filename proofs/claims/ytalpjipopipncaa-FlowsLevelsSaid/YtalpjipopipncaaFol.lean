/- The walk of fold. Conditions: those of fold_any. -/
import Derived.Test.YtalpjipopipncaaGat
namespace Go.Proofs.Ytalpjipopipncaa
open Go Go.RowKit

theorem u32_id {x : Int} (h0 : 0 ≤ x) (h1 : x < 4294967296) : IntKind.u32.wrap x = x := by
  simp [IntKind.wrap, IntKind.bits, IntKind.signed]; omega

set_option maxHeartbeats 2000000 in
theorem fold_any {p : Value} {G : Prg} {N : Nat} {W0 : World} (hF : FlowAt p G N W0) {w : World} (hw : Below N W0 w) (hN : N ≤ w.heap.size) {b g cap : Nat} {agg ctl : St} {rounds up : Int} {S : List St}
    (hR : RunAt w b (.slice (some ⟨g, 0, none⟩) S.length cap) agg ctl rounds up) (hrow : Row w g 35 8 stC S) (hbg : b ≠ g) (hb : N ≤ b) (hn : S.length < 4294967296) (hct : 0 ≤ ctl 1) :
    Calls Try.prog 49 #[.pointer (some ⟨b, 0, none⟩), p] w fun e w' =>
      e = .returned (.bool true) ∧ Keep [b] w w' ∧ RunAt w' b (.slice (some ⟨g, 0, none⟩) S.length cap) (foldT G ctl S S.length) ctl rounds up := by
  have HF := Lib.hid hF
  have HW := Lib.hid hw
  have HR := Lib.hid hR
  have HO := Lib.hid hrow
  have hl0 : b < w.heap.size := hR.lt
  clear hF hw hR hrow
  go_enter Try.func49, Try.ntmps49
  go_wp2_with (refine wpList_store_at (cells := stC zeroS) rfl 35 _ _ rfl rfl rfl HR.out.aggAt i35 rfl (stC_one _) ?_)
  go_loopw [5] (fun v wr => ∃ k : Nat, k ≤ S.length ∧ v = .int .i64 k ∧ Keep [b] w wr ∧ RunAt wr b (.slice (some ⟨g, 0, none⟩) S.length cap) (foldT G ctl S k) ctl rounds up) (fun v _ => S.length - (intOf v).toNat)
  case atStart => exact ⟨0, Nat.zero_le _, rfl, keep_wput _ _ _ _, HR.out.put_agg _⟩
  case round =>
    obtain ⟨k, hk, rfl, hK, hRun⟩ := hrel
    have c0 := hRun.c0
    have hlr : b < wr.heap.size := hRun.lt
    by_cases hlt : k < S.length
    · have hkk : (k : Int) < (S.length : Int) := by omega
      have hRow : Row wr g 35 8 stC S := HO.out.keep hK (by simp; omega)
      have HBel := Lib.hid (hK.below HW.out hN (by simp; exact hb))
      have HRow := Lib.hid hRow
      have HRun := Lib.hid hRun
      have HK := Lib.hid hK
      have hk32 : (k : Int) < 4294967296 := by omega
      have hwk : IntKind.u32.wrap (k : Int) = (k : Int) := u32_id (by omega) hk32
      clear hRow hRun hK
      go_wp2
      refine wp_region_new 20 2 (by kernel_rfl) (by kernel_rfl) ?_
      simp only [List.take, List.drop]
      iterate 4 (refine wpHead_step (fun K hK => ?_); go_simp; (refine hK _ ?_; clear hK K))
      refine wpHead_load_at rfl 37 _ rfl _ rfl HRun.out.ctlAt.drew Try.underlying37 rfl i37 ?_
      iterate 3 (refine wpHead_step (fun K hK => ?_); go_simp; (refine hK _ ?_; clear hK K))
      refine wpHead_load_at rfl 35 _ rfl _ rfl HRun.out.aggAt.drew Try.underlying35 rfl i35 ?_
      iterate 8 (refine wpHead_step (fun K hK => ?_); go_simp; (refine hK _ ?_; clear hK K))
      refine wpHead_load_at rfl 35 _ rfl _ rfl (At.drew (HRow.out.at stC_size hlt)) Try.underlying35 rfl i35 ?_
      refine wpHead_step (fun K hK => ?_); go_simp
      (apply Exists.intro; refine ⟨fun W1 => ?_, hK _ ?_⟩)
      · exact HF.out.fold _ (HBel.out.trans (Ext.below (Ext.trans (Ext.drew wr) (nx_ext _ W1)) |>.mono (Nat.le_trans hN HK.out.size))) ctl (foldT G ctl S k) S[k] k hct (by omega) hk32
      clear hK K
      iterate 1 (refine wpHead_step (fun K hK => ?_); go_simp; (refine hK _ ?_; clear hK K))
      refine wpHead_nil ?_
      refine wpPure_step rfl _ (fun _ => rfl) ?_
      refine wpPure_step rfl _ (fun _ => rfl) ?_
      refine wpPure_nil ?_
      refine fOpE_alloc35 (ho := rfl) rfl rfl (fun w3 hw3 w4 hw4 => ?_)
      have hE4 : Ext wr w3 := Ext.trans (Ext.drew wr) hw3
      have hz : At w4 w3.heap.size 0 (stC zeroS) := At.ext (At.new _ _ rfl) hw4
      have hE5 : Ext wr w4 := (hE4.trans (Ext.alloc _ _)).trans hw4
      have hl3 : b < w3.heap.size ∧ w.heap.size ≤ w3.heap.size := ⟨Nat.lt_of_lt_of_le hlr hE4.size, Nat.le_trans HK.out.size hE4.size⟩
      have HZ := Lib.hid hz
      have HE := Lib.hid hE5
      have HL3 := Lib.hid hl3
      clear hw3 hw4 hE4 hz hE5 hl3 c0
      generalize w3.heap.size = B at *
      clear w3
      go_simp
      go_wp2_with (refine wpList_store_at rfl 35 _ _ rfl rfl rfl HZ.out i35 rfl (stC_one _) ?_)
      refine nOnly_mk ?_
      have hP := keep_wput w4 B 0 (stC (G.fold ctl (foldT G ctl S k) k S[k]))
      have HRV := Lib.hid ((HRun.out.ext HE.out).keep hP (by simp; have := HL3.out.1; omega))
      have HAV := Lib.hid (HZ.out.put (stC_size (G.fold ctl (foldT G ctl S k) k S[k])))
      have HKV := Lib.hid ((HK.out.transE HE.out).trans hP (fun j hj hlt => by simp at hj; have := HL3.out.2; omega))
      clear hP
      generalize wput w4 B 0 (stC (G.fold ctl (foldT G ctl S k) k S[k])) = V at *
      go_wp2_with (first | (go_at_call 15; refine (num_any _ _).mono ?_; rintro e w' ⟨rfl, rfl⟩) | (refine wpList_load_at rfl 35 _ rfl _ rfl HAV.out Try.underlying35 rfl i35 ?_) | (refine wpList_store_at rfl 35 _ _ rfl rfl rfl HRV.out.aggAt i35 rfl (stC_one _) ?_))
      go_roundw
      case rel =>
        refine ⟨k + 1, by omega, by go_num, HKV.out.trans (keep_wput _ _ _ _) (fun j hj _ => hj), ?_⟩
        have := HRV.out.put_agg (G.fold ctl (foldT G ctl S k) k S[k])
        show RunAt _ _ _ (G.fold ctl (foldT G ctl S k) k (S.getD k zeroS)) _ _ _
        rwa [show S.getD k zeroS = S[k] by simp [List.getD_eq_getElem?_getD, List.getElem?_eq_getElem hlt]]
      case measure => simp [intOf]; omega
    · have hkn : k = S.length := by omega
      subst hkn
      have HRun := Lib.hid hRun
      have HK := Lib.hid hK
      clear hRun hK
      go_wp2
      go_ret
      exact ⟨rfl, HK.out, HRun.out⟩
end Go.Proofs.Ytalpjipopipncaa
