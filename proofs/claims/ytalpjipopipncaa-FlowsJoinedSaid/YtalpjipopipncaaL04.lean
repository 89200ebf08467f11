/- The walk of the law FlowsJoined. Conditions: those of law4_any. -/
import Derived.Test.YtalpjipopipncaaPl5
namespace Go.Proofs.Ytalpjipopipncaa
open Go Go.RowKit

def itC (x : Nat) : Array Value := #[.int .i64 x]
theorem itC_size (x : Nat) : (itC x).size = 1 := rfl
theorem info3 : (Try.prog.info? 3).map (fun i => (i.zero, i.size, i.bytes)) = some (some (.int .i64 0), 1, 8) := by kernel_rfl
theorem row_it {w : World} {g : Nat} {A : List Nat} (h : Row w g 3 1 itC A) {i : Nat} (hi : i < A.length) : w.cell? ⟨g, i, none⟩ = some (.int .i64 (A.getD i 0 : Nat)) := by
  have := h.cell hi (j := 0) (by omega) (v := .int .i64 (A[i] : Nat)) rfl
  have e : A.getD i 0 = A[i] := by simp [List.getD_eq_getElem?_getD, List.getElem?_eq_getElem hi]
  rw [e]
  simpa using this
theorem row_it_set {w : World} {g : Nat} {A : List Nat} (h : Row w g 3 1 itC A) {i : Nat} (hi : i < A.length) (x : Nat) : Row (w.setCell ⟨g, i, none⟩ (.int .i64 x)) g 3 1 itC (A.set i x) := by
  have := h.set itC_size hi (j := 0) (by omega) (v := .int .i64 x) (s := x) (by simp [itC])
  simpa using this

set_option maxHeartbeats 1000000 in
theorem vertex_any (k : Nat) (hk : k < 4294967296) (w : World) : Calls Try.prog 38 #[.int .u64 k] w fun e w' => e = .returned (.tuple #[.int .u32 k, .bool true]) ∧ w' = w := by
  have h1 : (k : Int) ≤ 4294967295 := by omega
  have hwk : IntKind.u32.wrap (k : Int) = (k : Int) := u32_id (by omega) (by omega)
  go_enter Try.func38, Try.ntmps38
  go_wp2
  go_ret2
  exact ⟨rfl, rfl⟩
set_option maxHeartbeats 1000000 in
theorem label_any (s : St) (k : Nat) (hs : s 0 = (k : Nat)) (hk : k < 4294967296) (w : World) : Calls Try.prog 19 #[.agg (stC s)] w fun e w' => e = .returned (.tuple #[.int .u32 k, .bool true]) ∧ Ext w w' := by
  unfold stC
  rw [hs]
  go_enter Try.func19, Try.ntmps19
  go_wp2_with (go_at_call 38; refine (vertex_any k hk _).mono ?_; rintro e w' ⟨rfl, rfl⟩)
  go_ret2
  exact ⟨rfl, Ext.alloc _ _⟩

set_option maxRecDepth 20000 in
set_option maxHeartbeats 8000000 in
theorem law4_any (N : Int) (ao : Option Addr) (cap : Nat) (E : List Edg) (hlen : E.length ≤ 11728124029269) (hE : ∀ e ∈ E, e.s < 4294967296 ∧ e.d < 4294967296 ∧ e.w < 4294967296) (K : Nat) (hJ : JoinsOK (listE (sizeN N) 1 E) (sizeN N) K) (w : World) (he : EdgesIn w ao E) :
    Calls Try.prog 4 #[.agg #[.int .i64 N, .slice ao E.length cap]] w fun e w' => e = .returned (.bool true) ∧ Ext w w' := by
  have HE := Lib.hid he
  have HED := Lib.hid hE
  have HJ := Lib.hid hJ
  clear he hE hJ
  obtain ⟨i0, hi, hz0, hz1, hz2⟩ := info_parts info3
  have hmk := fun n (hn : n ≤ 400) W => run_make_rowN (P := Try.prog) 49 3 i0 _ Try.underlying49 hi hz0 .u32 .u32 n n (Nat.le_refl _) (by rw [hz2]; omega) (by omega) W
  rw [hz1] at hmk
  have HMK := Lib.hid hmk
  clear hi hz0 hz1 hz2 hmk
  go_enter Try.func4, Try.ntmps4
  go_upto_region 3 with (first | (go_at_call 10; refine (size_any N _ rfl _).mono ?_; rintro e w1 ⟨rfl, hX1⟩; have H1 := Lib.hid hX1; have hg1 := hX1.heap (heap_alloc_new w _); have gc0 := cell_of_row w1 w.heap.size 0 _ _ _ hg1; have gc1 := cell_of_row w1 w.heap.size 1 _ _ _ hg1; have hgl1 := (Array.getElem?_eq_some_iff.1 hg1).1; clear hX1 hg1) | (go_at_call 11; refine (list_any N ao cap E 1 hlen HED.out _ (HE.out.ext (Ext.trans (Ext.alloc _ _) H1.out))).mono ?_; rintro e w2 ⟨bo, c2, rfl, hX2, hE2, hbo⟩))
  have hX2' := Ext.trans (Ext.trans (Ext.alloc w (.cells #[.int .i64 N, .slice ao E.length cap] 24)) H1.out) hX2
  have hl := listE_length (sizeN N) 1 E
  have hn1 := sizeN_pos N
  have hn4 := sizeN_le N
  have hE' : ∀ e ∈ listE (sizeN N) 1 E, e.s < sizeN N ∧ e.d < sizeN N ∧ e.w < 4294967296 := fun e he => by
    obtain ⟨x, hx, rfl⟩ := List.mem_map.1 he
    exact ⟨Nat.mod_lt _ hn1, Nat.mod_lt _ hn1, by simp⟩
  have hws : w.heap.size ≤ w2.heap.size := hX2'.size
  generalize listE (sizeN N) 1 E = F at *
  generalize sizeN N = n at *
  have HXw := Lib.hid hX2'
  have HF2 := Lib.hid hE2
  have HBO := Lib.hid hbo
  have HED' := Lib.hid hE'
  have HL := Lib.hid hl
  clear hX2' hE2 hbo hE' hX2 H1 gc0 gc1 hgl1 HED HE
  have hF := flowAt_labels (W := w2.alloc (.cells #[.iface 79 (.agg #[])] 83)) (b := w2.heap.size) (N := w2.heap.size + 1) (heap_alloc_new w2 _) (by omega)
  have hcp := play_any (ap := ⟨w2.heap.size, 0, none⟩) hF sinkOK_labels sane_labels n hn1 hn4 bo c2 F (by rw [hl]; omega) HED'.out n (by omega) K HJ.out.plays (w2.alloc (.cells #[.iface 79 (.agg #[])] 83)) ((Ext.refl _).below.mono (by simp)) (by simp) (HF2.out.ext (Ext.alloc _ _)) (fun ge h => by have := (HBO.out ge h).2; simp; omega)
  rw [hl] at hcp
  have HCP := Lib.hid hcp
  clear hcp hF
  go_upto_region 4 with (first | (go_at_call 12; refine (wcc_any n hn1 (by omega) w2).mono ?_; rintro e w3 ⟨rfl, rfl⟩))
  go_upto_region 5 with (first | (go_at_call 13; refine HCP.out.mono ?_; rintro e w4 ⟨g, c, rfl, hX4, hg, hRow⟩) | (refine wpList_store_at rfl 39 _ _ rfl rfl rfl (At.new (runC (.slice none 0 0) zeroS zeroS 0 0) 39 rfl) i39 rfl (runC_one g n c _ _ _ _) ?_))
  have hwd := HJ.out.word
  have hls := iterR_length labelsP F n (K + 1)
  have hX3 : Ext w2 w4 := Ext.trans (Ext.alloc _ _) hX4
  have hB4 := (hX4.below : Below _ _ _).mono (show w2.heap.size + 1 ≤ _ by simp)
  have hws4 : w2.heap.size + 1 ≤ w4.heap.size := by have := hX4.size; simpa using this
  generalize iterR labelsP F (startR labelsP n) (K + 1) = r at *
  have hP3 := keep_wput (w4.alloc (.cells (runC (.slice none 0 0) zeroS zeroS 0 0) 39)) w4.heap.size 0 (runC (.slice (some ⟨g, 0, none⟩) n c) r.agg r.ctl r.rounds r.up)
  have hEV := Ext.trans' (Ext.alloc w4 (.cells (runC (.slice none 0 0) zeroS zeroS 0 0) 39)) hP3 (by simp)
  have hRV : RunAt (wput (w4.alloc (.cells (runC (.slice none 0 0) zeroS zeroS 0 0) 39)) w4.heap.size 0 (runC (.slice (some ⟨g, 0, none⟩) n c) r.agg r.ctl r.rounds r.up)) w4.heap.size (.slice (some ⟨g, 0, none⟩) n c) r.agg r.ctl r.rounds r.up := by
    unfold RunAt
    rw [wput_heap (heap_alloc_new w4 _)]
    simp [runC, spl]
  change Code.wp _ _ _ _ (wput (w4.alloc (.cells (runC (.slice none 0 0) zeroS zeroS 0 0) 39)) w4.heap.size 0 (runC (.slice (some ⟨g, 0, none⟩) n c) r.agg r.ctl r.rounds r.up))
  generalize wput (w4.alloc (.cells (runC (.slice none 0 0) zeroS zeroS 0 0) 39)) w4.heap.size 0 (runC (.slice (some ⟨g, 0, none⟩) n c) r.agg r.ctl r.rounds r.up) = V at *
  have hbV := hRV.lt
  clear hl
  have hS0 : ∀ v (h : v < r.S.length), r.S[v] 0 = (ufR F F.length v : Nat) := fun v h => by
    have h1 := congrArg (fun l => l[v]?) hwd
    simp only [List.getElem?_map, List.getElem?_eq_getElem h, Option.map_some, List.getElem?_range (show v < n by omega), Option.some.injEq] at h1
    exact h1
  have HS0 := Lib.hid hS0
  have HEV := Lib.hid ((HF2.out.ext hX3).ext hEV)
  have HRV := Lib.hid hRV
  have HRow := Lib.hid (hRow.ext hEV)
  have HXV := Lib.hid (Ext.trans HXw.out (Ext.trans hX3 hEV))
  have HLS := Lib.hid hls
  have hbo2 : ∀ ge, bo = some ⟨ge, 0, none⟩ → ge < V.heap.size := fun ge h => by have := (HBO.out ge h).2; omega
  have HBV := Lib.hid hbo2
  clear hB4 hRV hRow hEV hX3 hX4 hP3 hwd hls HCP HF2 HBO HJ HXw hS0 hbo2
  generalize w4.heap.size = B at *
  clear w4
  have hmk := fun W => HMK.out n hn4 W
  go_upto_region 9 with (go_at_call 15; refine (num_any _ _).mono ?_; rintro e w' ⟨rfl, rfl⟩)
  clear hmk
  have H0 : Hid (Row (V.alloc (.cells (madeCells #[.int .i64 0] n) 3)) V.heap.size 3 1 itC (List.replicate n 0)) := by
    have h := row_made (k := 1) (enc := itC) 0 rfl V 3 n _ rfl
    rw [Nat.mul_one] at h
    exact h
  go_wp2
  go_loopg [11] n (fun m v wr => ∃ (k : Nat) (A : List Nat), k + m = n ∧ v = .int .i64 k ∧ A.length = n ∧ (∀ i, i < k → A.getD i 0 = i) ∧ Ext V wr ∧ Row wr V.heap.size 3 1 itC A)
  case atStart => exact ⟨0, List.replicate n 0, by omega, rfl, by simp, fun i hi => by omega, Ext.alloc _ _, H0.out⟩
  clear H0
  case round =>
    obtain ⟨k, A, hk, rfl, hA, hlow, hX, hRow⟩ := hrel
    have hgl : V.heap.size < wr.heap.size := hRow.lt
    by_cases hlt : k < n
    · have hkk : (k : Int) < (n : Int) := by omega
      have hc := row_it hRow (show k < A.length by omega)
      have hf := hRow.frozen k
      have hR2 := Lib.hid (row_it_set hRow (show k < A.length by omega) k)
      have hX2 := Lib.hid (Ext.trans' hX (Keep.setCell (S := [V.heap.size]) (Keep.refl [V.heap.size] wr) (p := ⟨V.heap.size, k, none⟩) (.inl (by simp)) (.int .i64 (k : Nat))) (by simp))
      have hlo2 := Lib.hid (show ∀ i, i < k + 1 → (A.set k k).getD i 0 = i from fun i hi => by
        rw [getD_set A k _ i (by omega)]
        split
        · omega
        · exact hlow i (by omega))
      clear hX hRow hlow
      go_wp2
      go_roundg (gk - 1)
      case measure => omega
      case rel => exact ⟨k + 1, A.set k k, by omega, by go_num, by simpa using hA, hlo2.out, hX2.out, hR2.out⟩
    · have hkn : k = n := by omega
      subst hkn
      have HX := Lib.hid hX
      have HRw := Lib.hid hRow
      have HLow := Lib.hid hlow
      clear hX hRow hlow
      go_wp2
      have hS0' := HS0.out
      have hle : ∀ j, aptR F k j ≤ k := fun j => by
        induction j with
        | zero => exact Int.le_refl _
        | succ j ih => rw [aptR]; split <;> omega
      have HLE := Lib.hid hle
      have hap0 : ∀ j, j ≤ F.length → 0 ≤ aptR F k j := fun j hj => by
        rw [← cnt_uf (fun x hx => ⟨(HED'.out x hx).1, (HED'.out x hx).2.1⟩) j hj]; omega
      have HAP0 := Lib.hid hap0
      clear hle hap0 hS0'
      go_loopg [9, 12] E.length (fun m q v wr => ∃ (j : Nat) (A : List Nat), j + m = E.length ∧ q = .int .i64 (aptR F k j) ∧ v = .int .i64 j ∧ A.length = k ∧ (∀ i, i < k → A.getD i 0 = grpR F j i) ∧ Ext V wr ∧ Row wr V.heap.size 3 1 itC A)
      case atStart => exact ⟨0, A, by omega, rfl, rfl, hA, HLow.out, HX.out, HRw.out⟩
      clear HX HRw HLow
      case round =>
        obtain ⟨j, A, hj, rfl, rfl, hA, hR, hX, hRow⟩ := hrel
        have hgl : V.heap.size < wr.heap.size := hRow.lt
        by_cases hlt : j < E.length
        · have hjj : (j : Int) < (E.length : Int) := by omega
          have hjF : j < F.length := by rw [HL.out]; exact hlt
          obtain ⟨ge, rfl, hge⟩ := HEV.out (by intro h; subst h; simp at hjF)
          have hgel : ge < V.heap.size := hge.lt
          obtain ⟨hxs, hxd, _⟩ := HED'.out F[j] (List.getElem_mem hjF)
          have hge1 := hge.ext hX
          have e0 := hge1.cell hjF (j := 0) (by omega) (v := .int .u32 (F[j].s : Nat)) rfl
          have e1 := hge1.cell hjF (j := 1) (by omega) (v := .int .u32 (F[j].d : Nat)) rfl
          simp only [Nat.add_zero] at e0
          have hgel1 : ge < wr.heap.size := by omega
          have hgd : F.getD j ⟨0, 0, 0⟩ = F[j] := by simp [List.getD_eq_getElem?_getD, List.getElem?_eq_getElem hjF]
          have hlk : Link F F[j].s F[j].d := ⟨_, List.getElem_mem hjF, .inl ⟨rfl, rfl⟩⟩
          have hsame := ufR_same F _ _ hlk
          have hgs : grpR F (j + 1) = mergeF (grpR F j) (grpR F j F[j].s) (grpR F j F[j].d) := by rw [grpR_succ, hgd]
          have has : aptR F k (j + 1) = if grpR F j F[j].s = grpR F j F[j].d then aptR F k j else aptR F k j - 1 := by rw [aptR, hgd]
          have q1 := row_it hRow (show F[j].s < A.length by omega)
          have q2 := row_it hRow (show F[j].d < A.length by omega)
          rw [hR _ hxs] at q1
          rw [hR _ hxd] at q2
          have hbnd0 := HAP0.out j (by omega)
          have hbnd := HLE.out j
          generalize hxx : F[j] = x at *
          have hxsi : (x.s : Int) < (k : Int) := by omega
          have hxdi : (x.d : Int) < (k : Int) := by omega
          have HR := Lib.hid hR
          have HX := Lib.hid hX
          have HRw := Lib.hid hRow
          have HGS := Lib.hid hgs
          have HAS := Lib.hid has
          have HSM := Lib.hid hsame
          have HGE := Lib.hid hge
          have HXX := Lib.hid hxx
          clear hR hX hRow hgs has hsame hge hge1 hgd hlk hxx
          generalize haa : grpR F j x.s = a at *
          generalize hbb : grpR F j x.d = b at *
          go_upto_if 87 with fail
          go_cut [9] (fun q wv => q = .int .i64 (aptR F k (j + 1)) ∧ ∃ A', A'.length = k ∧ (∀ i, i < k → A'.getD i 0 = grpR F (j + 1) i) ∧ Ext V wv ∧ Row wv V.heap.size 3 1 itC A')
          case first =>
            by_cases hab : a = b
            · subst hab
              have hh := HAS.out
              rw [if_pos rfl] at hh
              have HH := Lib.hid hh
              clear hh
              go_wp2
              go_meet
              case rel =>
                refine ⟨by rw [HH.out], A, hA, fun i hi => ?_, HX.out, HRw.out⟩
                rw [HGS.out, mergeF_same]
                exact HR.out i hi
            · have habi : ¬ (a : Int) = (b : Int) := by omega
              have hh := HAS.out
              rw [if_neg hab] at hh
              have HH := Lib.hid hh
              have HA := Lib.hid hA
              clear hh hA
              go_wp2
              go_loopg [15] k (fun m v wv => ∃ (l : Nat) (A' : List Nat), l + m = k ∧ v = .int .i64 l ∧ A'.length = k ∧ (∀ i, i < k → A'.getD i 0 = if i < l then mergeF (grpR F j) a b i else grpR F j i) ∧ Ext V wv ∧ Row wv V.heap.size 3 1 itC A')
              case atStart => exact ⟨0, A, by omega, rfl, HA.out, fun i hi => by rw [if_neg (by omega)]; exact HR.out i hi, HX.out, HRw.out⟩
              case round =>
                obtain ⟨l, A', hl2, rfl, hA', hR', hX', hRow'⟩ := hrel
                have hgl2 : V.heap.size < wr.heap.size := hRow'.lt
                by_cases hlk : l < k
                · have hli : (l : Int) < (k : Int) := by omega
                  have q3 := row_it hRow' (show l < A'.length by omega)
                  have hRl := hR' l hlk
                  rw [if_neg (Nat.lt_irrefl _)] at hRl
                  rw [hRl] at q3
                  have f3 := hRow'.frozen l
                  generalize hgl : grpR F j l = y at *
                  by_cases hyb : y = b
                  · subst hyb
                    have hW := Lib.hid (row_it_set hRow' (show l < A'.length by omega) a)
                    have hXs := Lib.hid (Ext.trans' hX' (Keep.setCell (S := [V.heap.size]) (Keep.refl [V.heap.size] wr) (p := ⟨V.heap.size, l, none⟩) (.inl (by simp)) (.int .i64 (a : Nat))) (by simp))
                    have hRn := Lib.hid (show ∀ i, i < k → (A'.set l a).getD i 0 = if i < l + 1 then mergeF (grpR F j) a y i else grpR F j i from fun i hi => by
                      rw [getD_set A' l _ i (by omega)]
                      by_cases hil : i = l
                      · subst hil
                        rw [if_pos rfl, if_pos (by omega)]
                        simp [mergeF, hgl]
                      · rw [if_neg hil, hR' i hi]
                        by_cases h1 : i < l
                        · rw [if_pos h1, if_pos (by omega)]
                        · rw [if_neg h1, if_neg (by omega)])
                    clear hX' hRow' hR' hRl
                    go_wp2
                    go_roundg (gk - 1)
                    case measure => omega
                    case rel => exact ⟨l + 1, A'.set l a, by omega, by go_num, by simpa using hA', hRn.out, hXs.out, hW.out⟩
                  · have hyi : ¬ (y : Int) = (b : Int) := by omega
                    have hRn := Lib.hid (show ∀ i, i < k → A'.getD i 0 = if i < l + 1 then mergeF (grpR F j) a b i else grpR F j i from fun i hi => by
                      rw [hR' i hi]
                      by_cases hil : i = l
                      · subst hil
                        rw [if_neg (Nat.lt_irrefl _), if_pos (by omega)]
                        simp [mergeF, hgl, hyb]
                      · by_cases h1 : i < l
                        · rw [if_pos h1, if_pos (by omega)]
                        · rw [if_neg h1, if_neg (by omega)])
                    have HX' := Lib.hid hX'
                    have HR' := Lib.hid hRow'
                    clear hX' hRow' hR' hRl
                    go_wp2
                    go_roundg (gk - 1)
                    case measure => omega
                    case rel => exact ⟨l + 1, A', by omega, by go_num, hA', hRn.out, HX'.out, HR'.out⟩
                · have HX' := Lib.hid hX'
                  have HR' := Lib.hid hRow'
                  have hRn := Lib.hid (show ∀ i, i < k → A'.getD i 0 = grpR F (j + 1) i from fun i hi => by rw [hR' i hi, if_pos (by omega), HGS.out])
                  clear hX' hRow' hR'
                  go_wp2
                  go_meet
                  case rel => exact ⟨by rw [HH.out], A', hA', hRn.out, HX'.out, HR'.out⟩
          case rest =>
            obtain ⟨rfl, A2, hA2, hR2, hX2, hRow2⟩ := hcut
            have HX2 := Lib.hid hX2
            have HR2 := Lib.hid hR2
            have HRw2 := Lib.hid hRow2
            clear hX2 hR2 hRow2 e0 e1 q1 q2
            have c02 := (HRV.out.ext HX2.out).c0
            have hl2 : B < wc.heap.size := (HRV.out.ext HX2.out).lt
            have hg2 : ge < wc.heap.size := by have := HX2.out.size; omega
            have e2 := (HGE.out.ext HX2.out).cell hjF (j := 0) (by omega) (v := .int .u32 (x.s : Nat)) (by rw [HXX.out]; rfl)
            simp only [Nat.add_zero] at e2
            have hA2 : At wc.drew g (x.s * 8) (stC (r.S[x.s]'(by rw [HLS.out]; omega))) := ((HRow.out.ext HX2.out).at stC_size (by rw [HLS.out]; omega)).drew
            have hC2 := fun W1 => label_any (r.S[x.s]'(by rw [HLS.out]; omega)) (ufR F F.length x.s) (HS0.out x.s (by rw [HLS.out]; omega)) (by have := ufR_le F F.length x.s; omega) W1
            generalize (r.S[x.s]'(by rw [HLS.out]; omega)) = st2 at *
            have HA2 := Lib.hid hA2
            have HC2 := Lib.hid hC2
            clear hA2 hC2
            go_upto_region 25 with fail
            refine wp_region_row 15 0 (by kernel_rfl) (by kernel_rfl) ?_
            simp only [List.take, List.drop]
            iterate 8 (refine wpHead_step (fun K hK => ?_); go_simp; (refine hK _ ?_; clear hK K))
            refine wpHead_load_at rfl 35 _ rfl _ rfl HA2.out Try.underlying35 rfl i35 ?_
            refine wpHead_step (fun K hK => ?_); go_simp
            (apply Exists.intro; refine ⟨fun W1 => ?_, hK _ ?_⟩)
            · exact HC2.out _
            clear hK K
            iterate 5 (refine wpHead_step (fun K hK => ?_); go_simp; (refine hK _ ?_; clear hK K))
            refine wpHead_nil (wpPure_nil ?_)
            intro w3 hw3
            refine wpList_nil (nOnly_mk ?_)
            have HY2 := Lib.hid (Ext.trans (Ext.drew wc) hw3)
            clear hw3 e2 c02 HA2 HC2
            have HX3 := Lib.hid (Ext.trans HX2.out HY2.out)
            have c03 := (HRV.out.ext HX3.out).c0
            have hl3 : B < w3.heap.size := (HRV.out.ext HX3.out).lt
            have hg3 : ge < w3.heap.size := by have := HX3.out.size; omega
            have e3 := (HGE.out.ext HX3.out).cell hjF (j := 1) (by omega) (v := .int .u32 (x.d : Nat)) (by rw [HXX.out]; rfl)
            have hA3 : At w3.drew g (x.d * 8) (stC (r.S[x.d]'(by rw [HLS.out]; omega))) := ((HRow.out.ext HX3.out).at stC_size (by rw [HLS.out]; omega)).drew
            have hC3 := fun W1 => label_any (r.S[x.d]'(by rw [HLS.out]; omega)) (ufR F F.length x.d) (HS0.out x.d (by rw [HLS.out]; omega)) (by have := ufR_le F F.length x.d; omega) W1
            generalize (r.S[x.d]'(by rw [HLS.out]; omega)) = st3 at *
            have HA3 := Lib.hid hA3
            have HC3 := Lib.hid hC3
            clear hA3 hC3
            go_upto_region 26 with fail
            refine wp_region_row 15 0 (by kernel_rfl) (by kernel_rfl) ?_
            simp only [List.take, List.drop]
            iterate 8 (refine wpHead_step (fun K hK => ?_); go_simp; (refine hK _ ?_; clear hK K))
            refine wpHead_load_at rfl 35 _ rfl _ rfl HA3.out Try.underlying35 rfl i35 ?_
            refine wpHead_step (fun K hK => ?_); go_simp
            (apply Exists.intro; refine ⟨fun W1 => ?_, hK _ ?_⟩)
            · exact HC3.out _
            clear hK K
            iterate 5 (refine wpHead_step (fun K hK => ?_); go_simp; (refine hK _ ?_; clear hK K))
            refine wpHead_nil (wpPure_nil ?_)
            intro w4 hw4
            refine wpList_nil (nOnly_mk ?_)
            have HY3 := Lib.hid (Ext.trans (Ext.drew w3) hw4)
            clear hw4 e3 c03 HA3 HC3
            have HX4 := Lib.hid (Ext.trans HX3.out HY3.out)
            have HRw4 := Lib.hid ((HRw2.out.ext HY2.out).ext HY3.out)
            rw [HSM.out]
            generalize ufR F F.length x.d = lab at *
            clear HX2 HX3 HY2 HY3 HRw2 hl2 hl3 hg2 hg3
            go_wp2
            go_roundg (gk - 1)
            case measure => omega
            case rel => exact ⟨j + 1, A2, by omega, rfl, by go_num, hA2, HR2.out, HX4.out, HRw4.out⟩
        · have hjE : j = E.length := by omega
          subst hjE
          have hcu := cnt_uf (fun x hx => ⟨(HED'.out x hx).1, (HED'.out x hx).2.1⟩) F.length (Nat.le_refl _)
          have HCU := Lib.hid hcu
          have HX := Lib.hid hX
          clear hX hRow hR hcu
          go_wp2
          go_loopg [20, 21] k (fun m q v wr => ∃ l : Nat, l + m = k ∧ q = .int .i64 (cnt (fixB (ufR F F.length)) l : Nat) ∧ v = .int .u32 l ∧ Ext V wr)
          case atStart => exact ⟨0, by omega, rfl, rfl, HX.out⟩
          clear HX
          case round =>
            obtain ⟨l, hl2, rfl, rfl, hX⟩ := hrel
            have hR1 := HRV.out.ext hX
            have c0 := hR1.c0
            have hlB : B < wr.heap.size := hR1.lt
            by_cases hlk : l < k
            · have hli : (l : Int) < (k : Int) := by omega
              have hu := ufR_le F F.length l
              have hid := ufR_idem F F.length l
              have hfx : fixB (ufR F F.length) l = decide (ufR F F.length l = l) := rfl
              have hcs : cnt (fixB (ufR F F.length)) (l + 1) = if fixB (ufR F F.length) l then cnt (fixB (ufR F F.length)) l + 1 else cnt (fixB (ufR F F.length)) l := rfl
              have hcl := cnt_le (fixB (ufR F F.length)) l
              rw [hfx] at hcs
              have hAl : At wr g (l * 8) (stC (r.S[l]'(by rw [HLS.out]; omega))) := (HRow.out.ext hX).at stC_size (by rw [HLS.out]; omega)
              have hCl := fun W1 => label_any (r.S[l]'(by rw [HLS.out]; omega)) (ufR F F.length l) (HS0.out l (by rw [HLS.out]; omega)) (by omega) W1
              have hul : ufR F F.length l < r.S.length := by rw [HLS.out]; omega
              have hcell : ∀ w', Ext wr w' → w'.cell? ⟨g, ufR F F.length l * 8, none⟩ = some (.int .u64 (ufR F F.length l : Nat)) ∧ g < w'.heap.size := fun w' h' => by
                have hrw := (HRow.out.ext hX).ext h'
                have h1 := hrw.cell hul (j := 0) (by omega) (stC_get _ 0 (by omega))
                rw [HS0.out _ hul, hid] at h1
                exact ⟨by simpa using h1, hrw.lt⟩
              generalize (r.S[l]'(by rw [HLS.out]; omega)) = st at *
              obtain ⟨cn1, hcn1⟩ : ∃ c, cnt (fixB (ufR F F.length)) (l + 1) = c := ⟨_, rfl⟩
              rw [hcn1] at hcs
              have HN1 := Lib.hid hcn1
              clear hcn1
              generalize cnt (fixB (ufR F F.length)) l = cn at *
              generalize ufR F F.length l = u at *
              have hui : (u : Int) < (k : Int) := by omega
              have hule : (u : Int) ≤ (l : Int) := by omega
              have HX := Lib.hid hX
              have HR1 := Lib.hid hR1
              have HAl := Lib.hid hAl
              have HCl := Lib.hid hCl
              have HCe := Lib.hid hcell
              have HCS := Lib.hid hcs
              clear hX hR1 hAl hCl hcell hcs hfx
              by_cases hue : u = l
              · subst hue
                have hcs := HCS.out
                simp only [decide_true, if_true] at hcs
                subst hcs
                go_wp2_with (first | (refine wpList_load_at rfl 35 _ rfl _ rfl HAl.out Try.underlying35 rfl i35 ?_) | (go_at_call 19; refine (HCl.out _).mono ?_; rintro e w3 ⟨rfl, h3⟩; have cc := (HCe.out _ h3).1; have gg := (HCe.out _ h3).2; have HR3 := HR1.out.ext h3; have c03 := HR3.c0; have hl3 := HR3.lt; have HX3 := Lib.hid (Ext.trans HX.out h3); clear h3 HR3))
                go_roundg (gk - 1)
                case measure => omega
                case rel => exact ⟨u + 1, by omega, by rw [HN1.out]; go_num, by go_num, HX3.out⟩
              · have hui2 : ¬ (u : Int) = (l : Int) := by omega
                have hcs := HCS.out
                simp only [hue, decide_false, Bool.false_eq_true, if_false] at hcs
                subst hcs
                go_wp2_with (first | (refine wpList_load_at rfl 35 _ rfl _ rfl HAl.out Try.underlying35 rfl i35 ?_) | (go_at_call 19; refine (HCl.out _).mono ?_; rintro e w3 ⟨rfl, h3⟩; have cc := (HCe.out _ h3).1; have gg := (HCe.out _ h3).2; have HR3 := HR1.out.ext h3; have c03 := HR3.c0; have hl3 := HR3.lt; have HX3 := Lib.hid (Ext.trans HX.out h3); clear h3 HR3))
                go_roundg (gk - 1)
                case measure => omega
                case rel => exact ⟨l + 1, by omega, by rw [HN1.out], by go_num, HX3.out⟩
            · have hlk2 : l = k := by omega
              subst hlk2
              have hcu := HCU.out
              rw [HL.out] at hcu ⊢
              rw [hcu]
              have HX := Lib.hid hX
              clear hX hR1 c0
              go_wp2
              go_ret
              exact ⟨rfl, Ext.trans HXV.out HX.out⟩
end Go.Proofs.Ytalpjipopipncaa
