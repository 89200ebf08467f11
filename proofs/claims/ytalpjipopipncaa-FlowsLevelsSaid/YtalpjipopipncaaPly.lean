/- The walk of the engine's play, where the pure play comes to its end. Conditions: those of play_any. -/
import Derived.Test.YtalpjipopipncaaSan
namespace Go.Proofs.Ytalpjipopipncaa
open Go Go.RowKit

def iterR (G : Prg) (E : List Edg) (r : RunP) : Nat → RunP
  | 0 => r
  | k + 1 => (roundF G E (iterR G E r k)).1
def startR (G : Prg) (n : Nat) : RunP := ⟨startT G n, foldT G zeroS (startT G n) n, zeroS, 0, 0⟩
theorem iterR_length (G : Prg) (E : List Edg) (n : Nat) : ∀ k, (iterR G E (startR G n) k).S.length = n
  | 0 => startT_length G n
  | k + 1 => by simp only [iterR, roundF]; rw [apT_length, iterR_length]
theorem iterR_rounds (G : Prg) (E : List Edg) (n : Nat) : ∀ k, (iterR G E (startR G n) k).rounds = k
  | 0 => rfl
  | k + 1 => by simp only [iterR, roundF]; rw [iterR_rounds]; rfl
/-- The play comes to its end in round K. -/
structure Plays (G : Prg) (E : List Edg) (n : Nat) (most : Int) (K : Nat) : Prop where
  lt : (K : Int) < most
  ok : ∀ k, k ≤ K → NoErr G E (iterR G E (startR G n) k)
  ctl : ∀ k, k ≤ K → 0 ≤ (iterR G E (startR G n) k).ctl 1
  on : ∀ k, k < K → (roundF G E (iterR G E (startR G n) k)).2 = false
  done : (roundF G E (iterR G E (startR G n) K)).2 = true

theorem runC_one (g n c : Nat) (agg ctl : St) (rounds up : Int) : (runC (.slice (some ⟨g, 0, none⟩) n c) agg ctl rounds up).all (·.oneCell') = true := by simp [runC, Value.oneCell']

set_option maxHeartbeats 4000000 in
theorem play_any {ap : Addr} {G : Prg} {N : Nat} {W0 : World} (hF : FlowAt (.pointer (some ap)) G N W0) (hS : SinkOK G) (hG : Sane G) (n : Nat) (hn1 : 1 ≤ n) (hn : n ≤ 400) (ao : Option Addr) (cap : Nat) (E : List Edg) (hlen : E.length ≤ 9223372036854775807) (hE : ∀ e ∈ E, e.s < n ∧ e.d < n ∧ e.w < 4294967296)
    (most : Int) (hm : most ≤ 1000000) (K : Nat) (hP : Plays G E n most K) (w : World) (hw : Below N W0 w) (hN : N ≤ w.heap.size) (he : EdgesAt w ao E) (hao : ∀ ge, ao = some ⟨ge, 0, none⟩ → ge < w.heap.size) :
    Calls Try.prog 13 #[.pointer (some ap), .int .u32 n, .slice ao E.length cap, .int .i64 most] w fun e w' => ∃ (g c : Nat), e = .returned (.tuple #[.agg (runC (.slice (some ⟨g, 0, none⟩) n c) (iterR G E (startR G n) (K + 1)).agg (iterR G E (startR G n) (K + 1)).ctl (iterR G E (startR G n) (K + 1)).rounds (iterR G E (startR G n) (K + 1)).up), .bool true]) ∧ Ext w w' ∧ w.heap.size ≤ g ∧ Row w' g 35 8 stC (iterR G E (startR G n) (K + 1)).S := by
  have hw8 : 0 ≤ G.words ∧ G.words ≤ 8 := by rcases hG with ⟨e, _⟩ | ⟨e, _⟩ | ⟨e, _⟩ <;> omega
  have hlt := hP.lt
  have HE2 : ∀ e ∈ E, e.s < n ∧ e.d < n := fun e h => ⟨(hE e h).1, (hE e h).2.1⟩
  have HF := Lib.hid hF
  have HS := Lib.hid hS
  have HG := Lib.hid hG
  have HED := Lib.hid hE
  have HED2 := Lib.hid HE2
  have HP := Lib.hid hP
  have HW := Lib.hid hw
  have HE := Lib.hid he
  have HAO := Lib.hid hao
  clear hF hS hG hE HE2 hP hw he hao
  go_enter Try.func13, Try.ntmps13
  go_upto_region 4 with (first | (go_at_call 33; refine (sane_any HF.out HG.out (HW.out.trans ((Ext.alloc _ _).below.mono hN)) (by simp; omega)).mono ?_; rintro e w1 ⟨rfl, hX⟩))
  have hT : At w1 w.heap.size 0 (runC (.slice none 0 0) zeroS zeroS 0 0) := At.ext (At.new (runC (.slice none 0 0) zeroS zeroS 0 0) 39 rfl) hX
  have hX1 : Ext w w1 := Ext.trans (Ext.alloc _ _) hX
  have hs1 : w.heap.size < w1.heap.size := hT.lt
  have HT := Lib.hid hT
  have HX1 := Lib.hid hX1
  have HB1 := Lib.hid (HW.out.trans (hX1.below.mono hN))
  clear hT hX1 hX
  go_wp2_with (first | (refine wpList_store_at rfl 39 _ _ rfl rfl rfl (At.new (runC (.slice none 0 0) zeroS zeroS 0 0) 39 rfl) i39 rfl (runC_one g n c _ _ _ _) ?_) | (go_at_call 34; refine (begin_any HF.out hw8 n hn1 hn ao cap E hlen HED2.out w1 HB1.out (by omega) (HE.out.ext HX1.out)).mono ?_; rintro e w2 ⟨g, c, rfl, hX2, hg, hRow⟩))
  have hP3 := keep_wput (w2.alloc (.cells (runC (.slice none 0 0) zeroS zeroS 0 0) 39)) w2.heap.size 0 (runC (.slice (some ⟨g, 0, none⟩) n c) (foldT G zeroS (startT G n) n) zeroS 0 0)
  have hEV := Ext.trans' (Ext.alloc w2 (.cells (runC (.slice none 0 0) zeroS zeroS 0 0) 39)) hP3 (by simp)
  have hRV : RunAt (wput (w2.alloc (.cells (runC (.slice none 0 0) zeroS zeroS 0 0) 39)) w2.heap.size 0 (runC (.slice (some ⟨g, 0, none⟩) n c) (foldT G zeroS (startT G n) n) zeroS 0 0)) w2.heap.size (.slice (some ⟨g, 0, none⟩) n c) (foldT G zeroS (startT G n) n) zeroS 0 0 := by
    unfold RunAt
    rw [wput_heap (heap_alloc_new w2 _)]
    simp [runC, spl]
  have hlV : w2.heap.size < (wput (w2.alloc (.cells (runC (.slice none 0 0) zeroS zeroS 0 0) 39)) w2.heap.size 0 (runC (.slice (some ⟨g, 0, none⟩) n c) (foldT G zeroS (startT G n) n) zeroS 0 0)).heap.size := by rw [wput_size]; simp
  change Code.wp _ _ _ _ (wput (w2.alloc (.cells (runC (.slice none 0 0) zeroS zeroS 0 0) 39)) w2.heap.size 0 (runC (.slice (some ⟨g, 0, none⟩) n c) (foldT G zeroS (startT G n) n) zeroS 0 0))
  generalize wput (w2.alloc (.cells (runC (.slice none 0 0) zeroS zeroS 0 0) 39)) w2.heap.size 0 (runC (.slice (some ⟨g, 0, none⟩) n c) (foldT G zeroS (startT G n) n) zeroS 0 0) = V at *
  have hgl : g < w2.heap.size := hRow.lt
  have hs2 : w1.heap.size ≤ w2.heap.size := hX2.size
  have hXV : Ext w1 V := Ext.trans hX2 hEV
  have HXV := Lib.hid hXV
  have HRV := Lib.hid hRV
  have HRoV := Lib.hid (hRow.ext hEV)
  have HTV := Lib.hid (HT.out.ext hXV)
  clear hP3 hEV hRV hRow hX2 hXV HT
  generalize w2.heap.size = B at *
  clear w2
  go_wp2
  go_loopg [12] K (fun m v wr => ∃ k : Nat, k + m = K ∧ v = .bool true ∧ Keep [B, g] V wr ∧ RunAt wr B (.slice (some ⟨g, 0, none⟩) n c) (iterR G E (startR G n) k).agg (iterR G E (startR G n) k).ctl k (iterR G E (startR G n) k).up ∧ Row wr g 35 8 stC (iterR G E (startR G n) k).S)
  case atStart => exact ⟨0, by omega, rfl, Keep.refl _ _, HRV.out, HRoV.out⟩
  case round =>
    obtain ⟨k, hk, rfl, hK, hRun, hRo⟩ := hrel
    have hkm : (k : Int) < most := by omega
    have c13 := hRun.c13
    have hlr : B < wr.heap.size := hRun.lt
    have hit : (iterR G E (startR G n) (k + 1)) = (roundF G E (iterR G E (startR G n) k)).1 := rfl
    have hln := iterR_length G E n k
    have hro := iterR_rounds G E n k
    have hok := HP.out.ok k (by omega)
    have hKs : V.heap.size ≤ wr.heap.size := hK.size
    have hBl : Below N W0 wr := hK.below (HB1.out.trans (HXV.out.below.mono (by omega))) (by omega) (by simp; omega)
    have hcall := round_any HF.out HS.out hw8 (b := B) (g := g) (cap := c) (iterR G E (startR G n) k) (by rw [hln]; exact hn1) (by rw [hln]; exact hn) (by rw [hro]; omega) ao cap E hlen (by rw [hln]; exact HED.out) hok wr hBl (by omega) ((HE.out.ext HX1.out).ext HXV.out |>.keep hK (fun ge hge _ => by have := HAO.out ge hge; simp; omega)) (fun ge hge => by have := HAO.out ge hge; omega) (by rw [hln, hro]; exact hRun) hRo (by omega) (by omega) (by omega) (HP.out.ctl k (by omega))
    have hro1 := iterR_rounds G E n (k + 1)
    rw [hln] at hcall
    rw [← hit] at hcall
    rw [hro1] at hcall
    by_cases hkK : k = K
    · subst hkK
      rw [HP.out.done] at hcall
      have HC := Lib.hid hcall
      have HK := Lib.hid hK
      clear hcall hRun hRo hK hBl hok hit hln hro hro1
      go_wp2_with (first | (go_at_call 35; refine HC.out.mono ?_; rintro e w3 ⟨rfl, h1, h2, h3⟩; have H1 := Lib.hid h1; have H2 := Lib.hid h2; have H3 := Lib.hid h3; have HT3 := Lib.hid ((HTV.out.keep HK.out (by simp; omega)).keep h1 (by simp; omega)); clear h1 h2 h3) | (refine wpList_load_at rfl 39 _ rfl _ rfl H2.out.whole Try.underlying39 rfl i39 ?_) | (refine wpList_store_at rfl 39 _ _ rfl rfl rfl HT3.out i39 rfl (runC_one g n c _ _ _ _) ?_))
      have hA6 := HT3.out.put (runC_size (.slice (some ⟨g, 0, none⟩) n c) (iterR G E (startR G n) (k + 1)).agg (iterR G E (startR G n) (k + 1)).ctl (k + 1) (iterR G E (startR G n) (k + 1)).up)
      have hP6 := keep_wput w3 w.heap.size 0 (runC (.slice (some ⟨g, 0, none⟩) n c) (iterR G E (startR G n) (k + 1)).agg (iterR G E (startR G n) (k + 1)).ctl (k + 1) (iterR G E (startR G n) (k + 1)).up)
      have hro1 := iterR_rounds G E n (k + 1)
      rw [hro1]
      refine bodyPost_ret (results_at2 rfl _ _ rfl hA6 Try.underlying39 rfl i39) rfl ⟨g, c, rfl, ?_, by omega, ?_⟩
      · have h1 : Keep [B, g] V w3 := HK.out.trans H1.out (fun _ h _ => h)
        have h2 : Keep [B, g, w.heap.size] V w3 := h1.mono (fun j hj => by simp at hj ⊢; omega)
        exact Ext.trans' (Ext.trans HX1.out HXV.out) (h2.trans hP6 (fun j hj _ => by simp at hj ⊢; omega)) (fun j hj => by simp at hj; omega)
      · exact H3.out.keep hP6 (by simp; omega)
    · have hk2 : k < K := by omega
      rw [HP.out.on k hk2] at hcall
      have HC := Lib.hid hcall
      have HK := Lib.hid hK
      clear hcall hRun hRo hK hBl hok hit hln hro hro1
      go_wp2_with (go_at_call 35; refine HC.out.mono ?_; rintro e w3 ⟨rfl, h1, h2, h3⟩; have H1 := Lib.hid h1; have H2 := Lib.hid h2; have H3 := Lib.hid h3; clear h1 h2 h3)
      go_roundg (gk - 1)
      case measure => omega
      case rel => exact ⟨k + 1, by omega, rfl, HK.out.trans H1.out (fun _ h _ => h), H2.out, H3.out⟩
end Go.Proofs.Ytalpjipopipncaa
