/- The walk of the law FlowsJoins. Conditions: those of law3_any. -/
import Derived.Test.YtalpjipopipncaaUfn
namespace Go.Proofs.Ytalpjipopipncaa
open Go Go.RowKit

section
variable {P : Program} {ops : Array Oper} {rest : List Oper} {o : Oper} {a : Act} {w : World} {Q : Exit → Act → World → Prop} {g off : Nat} {cells : Array Value}
/-- [wpList_load_at] under a guard that wants it. -/
theorem wpList_load_atG (hw : Region.wanted o (yielded ops a.tmps) = true) (ty : TypeId) (x : Operand) (ho : o.op = .load ty x) (d : TypeDesc) (hx : a.eval x = .pointer (some ⟨g, off, none⟩)) (hA : At w g off cells) (hu : P.underlying ty = some d) (hd : aggD d = true) (hi : (P.info? ty).map (·.size) = some cells.size)
    (h : wpList P ops Q rest (a.put o.dst (.agg cells)) w) : wpList P ops Q (o :: rest) a w :=
  wpList_step fun K hK => by
    rw [if_pos hw]
    unfold Oper.wp
    rw [run_load_op ty x ho d hx hA hu hd hi]
    exact hK _ _ h
end
theorem row_nt_wd {w : World} {g : Nat} {A : List Nat} (h : Row w g 33 1 ntC A) : Row w g 33 1 wdC (A.map (fun x : Nat => (x : Int))) := by
  obtain ⟨cur, hg, hs, hc⟩ := h
  refine ⟨cur, hg, by simpa using hs, fun i hi j hj => ?_⟩
  have hi' : i < A.length := by simpa using hi
  rw [hc i hi' j hj]
  simp [ntC, wdC]

/-- The roots among the first k. -/
def rootsT (A : List Nat) : Nat → Int
  | 0 => 0
  | k + 1 => if A.getD k 0 = k then u64p (rootsT A k) else rootsT A k

/-- What the labels' play must come to. -/
structure JoinsOK (E : List Edg) (n : Nat) (K : Nat) : Prop where
  plays : Plays labelsP E n n K
  word : (iterR labelsP E (startR labelsP n) (K + 1)).S.map (fun s => s 0) = (List.range n).map (fun i : Nat => ((ufR E E.length i : Nat) : Int))
  agg : (iterR labelsP E (startR labelsP n) (K + 1)).agg 0 = rootsT ((List.range n).map (ufR E E.length)) n

set_option maxRecDepth 20000 in
set_option maxHeartbeats 4000000 in
theorem law3_any (N : Int) (ao : Option Addr) (cap : Nat) (E : List Edg) (hlen : E.length ≤ 11728124029269) (hE : ∀ e ∈ E, e.s < 4294967296 ∧ e.d < 4294967296 ∧ e.w < 4294967296) (K : Nat) (hJ : JoinsOK (listE (sizeN N) 1 E) (sizeN N) K) (w : World) (he : EdgesIn w ao E) :
    Calls Try.prog 3 #[.agg #[.int .i64 N, .slice ao E.length cap]] w fun e w' => e = .returned (.bool true) ∧ Ext w w' := by
  have HE := Lib.hid he
  have HED := Lib.hid hE
  have HJ := Lib.hid hJ
  clear he hE hJ
  go_enter Try.func3, Try.ntmps3
  go_upto_region 3 with (first | (go_at_call 10; refine (size_any N _ rfl _).mono ?_; rintro e w1 ⟨rfl, hX1⟩; have H1 := Lib.hid hX1; have hg1 := hX1.heap (heap_alloc_new w _); have gc0 := cell_of_row w1 w.heap.size 0 _ _ _ hg1; have gc1 := cell_of_row w1 w.heap.size 1 _ _ _ hg1; have hgl1 := (Array.getElem?_eq_some_iff.1 hg1).1; clear hX1 hg1) | (go_at_call 11; refine (list_any N ao cap E 1 hlen HED.out _ (HE.out.ext (Ext.trans (Ext.alloc _ _) H1.out))).mono ?_; rintro e w2 ⟨bo, c2, rfl, hX2, hE2, hbo⟩))
  have hX2' := Ext.trans (Ext.trans (Ext.alloc w (.cells #[.int .i64 N, .slice ao E.length cap] 24)) H1.out) hX2
  have hl := listE_length (sizeN N) 1 E
  have hn1 := sizeN_pos N
  have hn4 := sizeN_le N
  have hE' : ∀ e ∈ listE (sizeN N) 1 E, e.s < sizeN N ∧ e.d < sizeN N ∧ e.w < 4294967296 := fun e he => by
    obtain ⟨x, hx, rfl⟩ := List.mem_map.1 he
    exact ⟨Nat.mod_lt _ hn1, Nat.mod_lt _ hn1, by simp⟩
  have hws : w.heap.size ≤ w2.heap.size := hX2'.size
  generalize listE (sizeN N) 1 E = F at *
  generalize sizeN N = n at *
  have HXw := Lib.hid hX2'
  have HF2 := Lib.hid hE2
  have HBO := Lib.hid hbo
  have HED' := Lib.hid hE'
  have HL := Lib.hid hl
  clear hX2' hE2 hbo hE' hX2 H1 gc0 gc1 hgl1 HED HE
  have hF := flowAt_labels (W := w2.alloc (.cells #[.iface 79 (.agg #[])] 83)) (b := w2.heap.size) (N := w2.heap.size + 1) (heap_alloc_new w2 _) (by omega)
  have hcp := play_any (ap := ⟨w2.heap.size, 0, none⟩) hF sinkOK_labels sane_labels n hn1 hn4 bo c2 F (by rw [hl]; omega) HED'.out n (by omega) K HJ.out.plays (w2.alloc (.cells #[.iface 79 (.agg #[])] 83)) ((Ext.refl _).below.mono (by simp)) (by simp) (HF2.out.ext (Ext.alloc _ _)) (fun ge h => by have := (HBO.out ge h).2; simp; omega)
  rw [hl] at hcp
  have hcb := fun w' (h : Below (w2.heap.size + 1) (w2.alloc (.cells #[.iface 79 (.agg #[])] 83)) w') => hF.both w' h
  have HCP := Lib.hid hcp
  have HCB := Lib.hid hcb
  clear hcp hcb hF
  go_upto_region 4 with (first | (go_at_call 12; refine (wcc_any n hn1 (by omega) w2).mono ?_; rintro e w3 ⟨rfl, rfl⟩))
  go_upto_region 5 with (first | (go_at_call 13; refine HCP.out.mono ?_; rintro e w4 ⟨g, c, rfl, hX4, hg, hRow⟩) | (refine wpList_store_at rfl 39 _ _ rfl rfl rfl (At.new (runC (.slice none 0 0) zeroS zeroS 0 0) 39 rfl) i39 rfl (runC_one g n c _ _ _ _) ?_))
  have hwd := HJ.out.word
  have hag := HJ.out.agg
  have hls := iterR_length labelsP F n (K + 1)
  have hX3 : Ext w2 w4 := Ext.trans (Ext.alloc _ _) hX4
  have hB4 := (hX4.below : Below _ _ _).mono (show w2.heap.size + 1 ≤ _ by simp)
  have hws4 : w2.heap.size + 1 ≤ w4.heap.size := by have := hX4.size; simpa using this
  generalize iterR labelsP F (startR labelsP n) (K + 1) = r at *
  have hP3 := keep_wput (w4.alloc (.cells (runC (.slice none 0 0) zeroS zeroS 0 0) 39)) w4.heap.size 0 (runC (.slice (some ⟨g, 0, none⟩) n c) r.agg r.ctl r.rounds r.up)
  have hEV := Ext.trans' (Ext.alloc w4 (.cells (runC (.slice none 0 0) zeroS zeroS 0 0) 39)) hP3 (by simp)
  have hRV : RunAt (wput (w4.alloc (.cells (runC (.slice none 0 0) zeroS zeroS 0 0) 39)) w4.heap.size 0 (runC (.slice (some ⟨g, 0, none⟩) n c) r.agg r.ctl r.rounds r.up)) w4.heap.size (.slice (some ⟨g, 0, none⟩) n c) r.agg r.ctl r.rounds r.up := by
    unfold RunAt
    rw [wput_heap (heap_alloc_new w4 _)]
    simp [runC, spl]
  change Code.wp _ _ _ _ (wput (w4.alloc (.cells (runC (.slice none 0 0) zeroS zeroS 0 0) 39)) w4.heap.size 0 (runC (.slice (some ⟨g, 0, none⟩) n c) r.agg r.ctl r.rounds r.up))
  generalize wput (w4.alloc (.cells (runC (.slice none 0 0) zeroS zeroS 0 0) 39)) w4.heap.size 0 (runC (.slice (some ⟨g, 0, none⟩) n c) r.agg r.ctl r.rounds r.up) = V at *
  have hbV := hRV.lt
  have hcr := refWCC_any n hn1 hn4 bo c2 F (by rw [HL.out]; omega) (fun e he => ⟨(HED'.out e he).1, (HED'.out e he).2.1⟩) V ((HF2.out.ext hX3).ext hEV)
  rw [HL.out] at hcr
  have HCR := Lib.hid hcr
  have HBV := Lib.hid (hB4.trans (hEV.below.mono hws4))
  have HRV := Lib.hid hRV
  have HRow := Lib.hid (hRow.ext hEV)
  have HXV := Lib.hid (Ext.trans HXw.out (Ext.trans hX3 hEV))
  have HWD := Lib.hid hwd
  have HAG := Lib.hid hag
  have HLS := Lib.hid hls
  clear hcr hB4 hRV hRow hEV hX3 hX4 hP3 hwd hag hls HCP HF2 HBO HED' HJ HXw
  generalize w4.heap.size = B at *
  clear w4
  go_upto_region 6 with (go_at_call 14; refine HCR.out.mono ?_; rintro e w5 ⟨g5, A, rfl, hX5, hg5, hA5, hAl, hAv⟩)
  have hA : A = (List.range n).map (ufR F F.length) := by
    refine List.ext_getElem (by simpa using hAl) (fun i h1 h2 => ?_)
    have := hAv i (by omega)
    rw [List.getD_eq_getElem?_getD, List.getElem?_eq_getElem h1] at this
    simpa [hl] using this
  have hAw : A.map (fun x : Nat => (x : Int)) = r.S.map (fun s => s 0) := by
    rw [HWD.out, hA, List.map_map]; rfl
  have hrt : rootsT A n = r.agg 0 := by rw [HAG.out, hA]
  have hRw : Row w5 g5 33 1 wdC (r.S.map (fun s => s 0)) := by rw [← hAw]; exact row_nt_wd hA5
  have HA5 := Lib.hid hA5
  have HRw := Lib.hid hRw
  have HRT := Lib.hid hrt
  have HX5 := Lib.hid (Ext.trans HXV.out hX5)
  have HR5 := Lib.hid (HRV.out.ext hX5)
  have HRow5 := Lib.hid (HRow.out.ext hX5)
  have HB5 := Lib.hid (HBV.out.trans (hX5.below.mono (by have := hbV; omega)))
  have hgl5 : g5 < w5.heap.size := hA5.lt
  have hBl5 : B < w5.heap.size := by have := hX5.size; omega
  have hBw : w2.heap.size + 1 ≤ w5.heap.size := by have := hX5.size; omega
  have HAl := Lib.hid hAl
  clear hA5 hRw hrt hA hAw hAv hX5 HXV HRV HRow HBV HWD HAG HCR hg5 hAl
  go_wp2
  go_loopg [10, 11] n (fun m s v wr => ∃ k : Nat, k + m = n ∧ s = .int .u64 (rootsT A k) ∧ v = .int .i64 k ∧ wr = w5)
  case atStart => exact ⟨0, by omega, rfl, rfl, rfl⟩
  case round =>
    obtain ⟨k, hk, rfl, rfl, rfl⟩ := hrel
    by_cases hlt : k < n
    · have hkk : (k : Int) < (n : Int) := by omega
      have hwk : IntKind.u64.wrap (k : Int) = (k : Int) := by simp [IntKind.wrap, IntKind.bits, IntKind.signed]; omega
      have q1 := row_nt HA5.out (show k < A.length by rw [HAl.out]; exact hlt)
      have hrs : rootsT A (k + 1) = if A.getD k 0 = k then u64p (rootsT A k) else rootsT A k := rfl
      generalize A.getD k 0 = a at *
      by_cases hak : a = k
      · subst hak
        rw [if_pos rfl] at hrs
        have HRS := Lib.hid hrs
        clear hrs
        go_wp2
        go_roundg (gk - 1)
        case measure => omega
        case rel => exact ⟨a + 1, by omega, by rw [HRS.out]; simp [u64p], by go_num, rfl⟩
      · rw [if_neg hak] at hrs
        have hak2 : ¬ (a : Int) = (k : Int) := by omega
        have HRS := Lib.hid hrs
        clear hrs
        go_wp2
        go_roundg (gk - 1)
        case measure => omega
        case rel => exact ⟨k + 1, by omega, by rw [HRS.out], by go_num, rfl⟩
    · have hkn : k = n := by omega
      subst hkn
      rw [HRT.out]
      have hwc : ∀ w', Row w' g 35 8 stC r.S → Calls Try.prog 18 #[.agg (runC (.slice (some ⟨g, 0, none⟩) k c) r.agg r.ctl r.rounds r.up), .int .i64 0] w' fun e w'' => ∃ g2 c2, e = .returned (.slice (some ⟨g2, 0, none⟩) k c2) ∧ Ext w' w'' ∧ Row w'' g2 33 1 wdC (r.S.map (fun s => s 0)) ∧ w'.heap.size ≤ g2 := fun w' h => word_any r.S k HLS.out hn1 hn4 g c r.agg r.ctl r.rounds r.up 0 (by omega) w' h
      have HWC := Lib.hid hwc
      clear hwc
      go_wp2_with (first
        | (go_at_call 15; refine (num_any _ _).mono ?_; rintro e w' ⟨rfl, rfl⟩)
        | (go_at_call 16; refine (HCB.out _ HB5.out).mono ?_; rintro e w6 ⟨rfl, hX6⟩; have HX6 := Lib.hid hX6; clear hX6)
        | (refine wpList_load_atG rfl 39 _ rfl _ rfl (HR5.out.ext HX6.out).whole Try.underlying39 rfl i39 ?_)
        | (go_at_call 18; refine (HWC.out _ (HRow5.out.ext HX6.out)).mono ?_; rintro e w7 ⟨g7, c7, rfl, hX7, hr7, _⟩; have HX7 := Lib.hid hX7; have HR7 := Lib.hid hr7; clear hX7 hr7)
        | (go_at_call 17; refine (same_any (r.S.map (fun s => s 0)) _ (by simp; exact HLS.out) hn4 g7 c7 g5 _ _ HR7.out ((HRw.out.ext HX6.out).ext HX7.out)).mono ?_; rintro e w8 ⟨rfl, hX8⟩; have hr8 := ((HR5.out.ext HX6.out).ext HX7.out).ext hX8; have cc : w8.cell? ⟨B, 1, none⟩ = some (.int .u64 (r.agg 0)) := cell_of_row w8 B 1 _ _ _ hr8; have hl8 := hr8.lt; have HX8 := Lib.hid hX8; clear hX8 hr8))
      go_ret
      exact ⟨rfl, Ext.trans (Ext.trans (Ext.trans HX5.out HX6.out) HX7.out) HX8.out⟩
end Go.Proofs.Ytalpjipopipncaa
