/- The walks of falls and Distance. Conditions: those of each theorem. -/
import Derived.Test.YtalpjipopipncaaRsn
namespace Go.Proofs.Ytalpjipopipncaa
open Go Go.RowKit

def boolC (x : Bool) : Array Value := #[boolV x]

set_option maxHeartbeats 400000 in
theorem distance_any (s : St) (h1 : s 1 = 0) (w : World) : Calls Try.prog 25 #[.agg (stC s)] w fun e w' => e = .returned (.tuple #[.int .i64 (if s 0 = ENDL then 0 else wrap64 (s 0)), .bool (s 0 != 9223372036854775807)]) ∧ Ext w w' := by
  have h2 : (s 1 != 0) = false := by simp [h1]
  by_cases h0 : s 0 = ENDL
  · have h3 : (s 0 == 9223372036854775807) = true := by simpa using show s 0 = 9223372036854775807 from h0
    have h4 : (s 0 != 9223372036854775807) = false := by simpa using show s 0 = 9223372036854775807 from h0
    rw [if_pos h0, h4]
    clear h0 h4 h1
    unfold stC
    go_enter Try.func25, Try.ntmps25
    go_wp2
    go_ret2
    exact ⟨rfl, Ext.alloc _ _⟩
  · have h3 : (s 0 == 9223372036854775807) = false := by simpa using show ¬ s 0 = 9223372036854775807 from h0
    have h4 : (s 0 != 9223372036854775807) = true := by simpa using show ¬ s 0 = 9223372036854775807 from h0
    rw [if_neg h0, h4]
    clear h0 h4 h1
    unfold stC
    go_enter Try.func25, Try.ntmps25
    go_wp2
    go_ret2
    exact ⟨rfl, Ext.alloc _ _⟩

/-- Distances as falls keeps them: those that are not there are 0. -/
def dstF (D : Nat → Int) (v : Nat) : Int := if D v = ENDL then 0 else D v
def thrF (D : Nat → Int) (v : Nat) : Bool := D v != 9223372036854775807
theorem thrF_true {D : Nat → Int} {v : Nat} (h : D v ≠ ENDL) : thrF D v = true := by
  unfold thrF; simpa using show ¬ D v = 9223372036854775807 from h
theorem thrF_false {D : Nat → Int} {v : Nat} (h : D v = ENDL) : thrF D v = false := by
  unfold thrF; simpa using show D v = 9223372036854775807 from h
/-- Does the round before the k-th, over all edges, change something? -/
def lastB (f : Nat) (E : List Edg) (s : Nat) : Nat → Bool
  | 0 => false
  | k + 1 => rlxB f E (bfD f E s k) E.length

set_option maxRecDepth 20000 in
set_option maxHeartbeats 4000000 in
theorem falls_any (n s : Nat) (hn1 : 1 ≤ n) (hn4 : n ≤ 400) (hs : s < n) (ao : Option Addr) (cap : Nat) (E : List Edg) (hlen : E.length ≤ 9223372036854775807) (hE : ∀ e ∈ E, e.s < n ∧ e.d < n ∧ e.w < 4294967296)
    (w : World) (he : EdgesAt w ao E) :
    Calls Try.prog 24 #[.int .u32 n, .int .u32 s, .slice ao E.length cap] w fun e w' => e = .returned (.bool (lastB 39 E s n)) ∧ Ext w w' := by
  have hwt := fun w W => weight_any 2 (.inr rfl) w W
  change ∀ (w : Nat) (W : World), Calls Try.prog 26 #[.int .i64 2, .int .u32 w] W fun e W' => e = .returned (.int .i64 (wtI 39 w)) ∧ Ext W W' at hwt
  generalize (39 : Nat) = f at *
  obtain ⟨i0, hi, hz0, hz1, hz2⟩ := info_parts info2
  have hmk := fun W => run_make_rowN (P := Try.prog) 94 2 i0 _ Try.underlying94 hi hz0 .u32 .u32 n n (Nat.le_refl _) (by rw [hz2]; omega) (by omega) W
  rw [hz1] at hmk
  obtain ⟨j0, hj, hy0, hy1, hy2⟩ := info_parts info4
  have hmk2 := fun W => run_make_rowN (P := Try.prog) 74 4 j0 _ Try.underlying74 hj hy0 .u32 .u32 n n (Nat.le_refl _) (by rw [hy2]; omega) (by omega) W
  rw [hy1] at hmk2
  have HI := Lib.hid hi
  have HZ0 := Lib.hid hz0
  have HZ1 := Lib.hid hz1
  have HZ2 := Lib.hid hz2
  have HJ := Lib.hid hj
  have HY0 := Lib.hid hy0
  have HY1 := Lib.hid hy1
  have HY2 := Lib.hid hy2
  have H0 : Hid (RowF (w.alloc (.cells (madeCells #[.int .i64 0] n) 2)) w.heap.size 2 i64V (fun _ => (0 : Int)) n) := Lib.hid (RowF.made (c := i64V) 0 w 2 n)
  have HE := Lib.hid he
  have HED := Lib.hid hE
  have HWT := Lib.hid hwt
  have hsi : (s : Int) < (n : Int) := by omega
  clear he hE hi hz0 hz1 hz2 hj hy0 hy1 hy2 hwt
  go_enter Try.func24, Try.ntmps24
  go_upto_region 3 with fail
  have hRs := RowF.made (c := boolV) false (w.alloc (.cells (madeCells #[.int .i64 0] n) 2)) 4 n
  rw [show (w.alloc (.cells (madeCells #[.int .i64 0] n) 2)).heap.size = w.heap.size + 1 by simp] at hRs
  rw [Nat.mul_one] at hmk hmk2
  have hR0 := H0.out.ext (Ext.alloc _ (.cells (madeCells #[.bool false] n) 4))
  have hXw : Ext w _ := ((Keep.refl [] w).alloc (.cells (madeCells #[.int .i64 0] n) 2)).alloc (.cells (madeCells #[.bool false] n) 4)
  clear H0 hmk hmk2
  change Code.wp _ _ _ _ ((w.alloc (.cells (madeCells #[.int .i64 0] n) 2)).alloc (.cells (madeCells #[.bool false] n) 4))
  change RowF ((w.alloc (.cells (madeCells #[.int .i64 0] n) 2)).alloc (.cells (madeCells #[.bool false] n) 4)) (w.heap.size + 1) 4 boolV (fun _ => false) n at hRs
  generalize (w.alloc (.cells (madeCells #[.int .i64 0] n) 2)).alloc (.cells (madeCells #[.bool false] n) 4) = W at *
  have q0 := hRs.get hs
  have f0 := hRs.frozen s
  have l0 := hRs.lt
  simp only [boolV] at q0
  have hT0 := hRs.set hs true
  have hP0 := Keep.setCell (S := [w.heap.size + 1]) (Keep.refl [w.heap.size + 1] W) (p := ⟨w.heap.size + 1, s, none⟩) (.inl (by simp)) (boolV true)
  have hX0 := Ext.trans' hXw hP0 (by simp)
  have hD0 := hR0.keep hP0 (by simp)
  have HT0 := Lib.hid (hT0.congr (f' := thrF (bfD f E s 0)) fun i _ => by
    by_cases h : i = s
    · rw [if_pos h]
      exact (thrF_true (show (if i = s then (0 : Int) else ENDL) ≠ ENDL by rw [if_pos h]; unfold ENDL; omega)).symm
    · rw [if_neg h]
      exact (thrF_false (show (if i = s then (0 : Int) else ENDL) = ENDL by rw [if_neg h])).symm)
  have HD0 := Lib.hid (hD0.congr (f' := dstF (bfD f E s 0)) fun i _ => by
    show (0 : Int) = if (if i = s then (0 : Int) else ENDL) = ENDL then 0 else (if i = s then (0 : Int) else ENDL)
    by_cases h : i = s
    · rw [if_pos h]; rfl
    · rw [if_neg h]; rfl)
  have HX0 := Lib.hid hX0
  clear hRs hR0 hXw hT0 hP0 hX0 hD0
  go_wp2
  go_loopg [7, 8, 9, 10] n (fun m sd st la r wr => ∃ (k g1 c1 g2 c2 : Nat), k + m = n ∧ sd = .slice (some ⟨g1, 0, none⟩) n c1 ∧ st = .slice (some ⟨g2, 0, none⟩) n c2 ∧ la = .bool (lastB f E s k) ∧ r = .int .u32 k ∧ Ext w wr ∧ RowF wr g1 2 i64V (dstF (bfD f E s k)) n ∧ RowF wr g2 4 boolV (thrF (bfD f E s k)) n)
  case atStart => exact ⟨0, w.heap.size, n, w.heap.size + 1, n, by omega, rfl, rfl, rfl, rfl, HX0.out, HD0.out, HT0.out⟩
  clear HX0 HD0 HT0 q0 f0 l0
  case round =>
    obtain ⟨k, g1, c1, g2, c2, hk, rfl, rfl, rfl, rfl, hX, hD, hT⟩ := hrel
    have l1 := hD.lt
    have l2 := hT.lt
    by_cases hlt : k < n
    · obtain ⟨gk0, hgk0⟩ : ∃ g0, g0 = gk := ⟨gk, rfl⟩
      subst hgk0
      have hkn : (k : Int) < (n : Int) := by omega
      have hbb := Lib.hid (fun v => bf_bnd f E s k v (by omega))
      have hBk : bfD f E s (k + 1) = rlxT f E (bfD f E s k) E.length := rfl
      have hCk : lastB f E s (k + 1) = rlxB f E (bfD f E s k) E.length := rfl
      have HBk := Lib.hid hBk
      have HCk := Lib.hid hCk
      have HX := Lib.hid hX
      have HD := Lib.hid hD
      have HT := Lib.hid hT
      clear hBk hCk hX hD hT
      generalize bfD f E s k = B at *
      generalize lastB f E s k = lk at *
      go_upto_region 10 with (at_builtin; refine wpList_append_own _ rfl (.tmp 28) (.tmp 29) 94 rfl wr.heap.size 2 i0 (.int .i64 0) 1 8 Try.underlying94 HI.out HZ0.out HZ1.out HZ2.out rfl (by omega) _ 0 [] rfl (World.ownsRow_made wr #[] 0 (Nat.le_refl _) (Nat.zero_le _) (by simp)) ⟨g1, 0, none⟩ n c1 (flat (fun x => #[i64V x]) ((List.range n).map (dstF B))) rfl (rowF_len i64V (dstF B) n) ?c1 ?c2 ?c3 ?c4 ?c5 ?c6)
      case c1 =>
        intro j u hu
        rw [add_at, Nat.zero_add]
        exact (HD.out.ext (Ext.alloc _ _)).flat_cell hu
      case c2 => exact flat_one (fun _ => by simp [i64V, Value.oneCell']) _
      case c3 => simp only [maxLen]; omega
      case c4 => omega
      case c5 => simp
      case c6 =>
        intro v' w1 hown hgr hnil
        clear hnil
        obtain ⟨g3, c3, rfl⟩ : ∃ g3 c3, v' = .slice (some ⟨g3, 0, none⟩) n c3 := by
          rcases hown.2 with ⟨_, h0⟩ | ⟨g3, c3, _, hv, _⟩
          · omega
          · exact ⟨g3, c3, hv⟩
        have hg3 : wr.heap.size ≤ g3 := by
          rcases hown.2 with ⟨h0, _⟩ | ⟨_, _, _, hv, hb, _⟩
          · cases h0
          · cases hv; exact hb
        have hX1 : Ext wr w1 := Keep.grown (Ext.alloc wr _) hgr (fun j hj => by simp [Value.ownBlock] at hj; exact .inr (by omega))
        have hRx : RowF w1 g3 2 i64V (dstF B) n := Row.of_own (fun _ => rfl) hown (by simp)
        have l3 : g3 < w1.heap.size := hRx.lt
        have l2' : g2 < w1.heap.size := by have := hX1.size; omega
        have HX1 := Lib.hid hX1
        have HRx := Lib.hid hRx
        have hs1 := hX1.size
        clear hown hgr hX1 hRx
        go_wp2_with (at_builtin; refine wpList_append_own _ rfl (.tmp 31) (.tmp 32) 74 rfl w1.heap.size 4 j0 (.bool false) 1 1 Try.underlying74 HJ.out HY0.out HY1.out HY2.out rfl (by omega) _ 0 [] rfl (World.ownsRow_made w1 #[] 0 (Nat.le_refl _) (Nat.zero_le _) (by simp)) ⟨g2, 0, none⟩ n c2 (flat (fun x => #[boolV x]) ((List.range n).map (thrF B))) rfl (rowF_len boolV (thrF B) n) ?d1 ?d2 ?d3 ?d4 ?d5 ?d6)
        case d1 =>
          intro j u hu
          rw [add_at, Nat.zero_add]
          exact ((HT.out.ext HX1.out).ext (Ext.alloc _ _)).flat_cell hu
        case d2 => exact flat_one (fun _ => by simp [boolV, Value.oneCell']) _
        case d3 => simp only [maxLen]; omega
        case d4 => omega
        case d5 => simp
        case d6 =>
          intro v' w2 hown hgr hnil
          clear hnil
          obtain ⟨g4, c4, rfl⟩ : ∃ g4 c4, v' = .slice (some ⟨g4, 0, none⟩) n c4 := by
            rcases hown.2 with ⟨_, h0⟩ | ⟨g4, c4, _, hv, _⟩
            · omega
            · exact ⟨g4, c4, hv⟩
          have hg4 : w1.heap.size ≤ g4 := by
            rcases hown.2 with ⟨h0, _⟩ | ⟨_, _, _, hv, hb, _⟩
            · cases h0
            · cases hv; exact hb
          have hX2 : Ext w1 w2 := Keep.grown (Ext.alloc w1 _) hgr (fun j hj => by simp [Value.ownBlock] at hj; exact .inr (by omega))
          have hRy : RowF w2 g4 4 boolV (thrF B) n := Row.of_own (fun _ => rfl) hown (by simp)
          have l4 : g4 < w2.heap.size := hRy.lt
          have hs2 := hX2.size
          have HX2 := Lib.hid (Ext.trans HX1.out hX2)
          have HRx2 := Lib.hid (HRx.out.ext hX2)
          have HRy := Lib.hid hRy
          have hs3 : w.heap.size ≤ wr.heap.size := HX.out.size
          clear hown hgr hX2 hRy HX1 HRx
          go_wp2
          go_loopg [9, 13] E.length (fun m la v wv => ∃ j : Nat, j + m = E.length ∧ la = .bool (rlxB f E B j) ∧ v = .int .i64 j ∧ Keep [g3, g4] w2 wv ∧ RowF wv g3 2 i64V (dstF (rlxT f E B j)) n ∧ RowF wv g4 4 boolV (thrF (rlxT f E B j)) n)
          case atStart => exact ⟨0, by omega, rfl, rfl, Keep.refl _ _, HRx2.out, HRy.out⟩
          clear HRx2 HRy
          case round =>
            obtain ⟨j, hj, rfl, rfl, hKp, hRx, hRy⟩ := hrel
            by_cases hjl : j < E.length
            · have hjj : (j : Int) < (E.length : Int) := by omega
              obtain ⟨ge, rfl, hge⟩ := HE.out (by intro h; subst h; simp at hjl)
              have hgel : ge < w.heap.size := hge.lt
              have hg34 : g3 < g4 := by omega
              have hge1 : Row wr ge 51 3 edC E := (((hge.ext HX.out).ext HX2.out).keep hKp (by simp; omega))
              have hD1 : RowF wr g1 2 i64V (dstF B) n := (HD.out.ext HX2.out).keep hKp (by simp; omega)
              have hT1 : RowF wr g2 4 boolV (thrF B) n := (HT.out.ext HX2.out).keep hKp (by simp; omega)
              obtain ⟨hxs, hxd, hxw⟩ := HED.out E[j] (List.getElem_mem hjl)
              have e0 := hge1.cell hjl (j := 0) (by omega) (v := .int .u32 (E[j].s : Nat)) rfl
              have e1 := hge1.cell hjl (j := 1) (by omega) (v := .int .u32 (E[j].d : Nat)) rfl
              have e2 := hge1.cell hjl (j := 2) (by omega) (v := .int .u32 (E[j].w : Nat)) rfl
              simp only [Nat.add_zero] at e0
              have hgd : E.getD j ⟨0, 0, 0⟩ = E[j] := by simp [List.getD_eq_getElem?_getD, List.getElem?_eq_getElem hjl]
              have hrT : rlxT f E B (j + 1) = rlx f B (rlxT f E B j) E[j] := by rw [rlxT, hgd]
              have hrB : rlxB f E B (j + 1) = (rlxB f E B j || decide (B E[j].s ≠ ENDL ∧ B E[j].s + wtI f E[j].w < rlxT f E B j E[j].d)) := by rw [rlxB, hgd]
              have hbd := (rlxT_spec f E B j (by omega))
              generalize E[j] = x at *
              generalize rlxT f E B j = D at *
              generalize rlxB f E B j = bo at *
              have qB := hD1.get hxs
              have qT := hT1.get hxs
              have qX := hRx.get hxd
              have qY := hRy.get hxd
              simp only [i64V, boolV] at qB qT qX qY
              have l5 := hge1.lt
              have l6 := hD1.lt
              have l7 := hT1.lt
              have l8 := hRx.lt
              have l9 := hRy.lt
              have hxsi : (x.s : Int) < (n : Int) := by omega
              have hxdi : (x.d : Int) < (n : Int) := by omega
              have HKP := Lib.hid hKp
              have HRX := Lib.hid hRx
              have HRY := Lib.hid hRy
              have HRT := Lib.hid hrT
              have HRB := Lib.hid hrB
              clear hge hge1 hD1 hT1 hgd hrT hrB hKp hRx hRy hbd
              by_cases hB : B x.s = ENDL
              · have hoff : ¬ (B x.s ≠ ENDL ∧ B x.s + wtI f x.w < D x.d) := fun h => h.1 hB
                have h1 := HRT.out
                have h2 := HRB.out
                rw [rlx_off f B D x hoff] at h1
                rw [decide_eq_false hoff, Bool.or_false] at h2
                rw [thrF_false hB] at qT
                have H1 := Lib.hid h1
                have H2 := Lib.hid h2
                clear h1 h2 hoff hB HRT HRB
                go_upto_region 16 with fail
                refine wp_region_row 29 0 (by kernel_rfl) (by kernel_rfl) ?_
                simp only [List.take, List.drop]
                iterate 5 (refine wpHead_step (fun K hK => ?_); go_simp; (refine hK _ ?_; clear hK K))
                iterate 23 (with_reducible refine wpHead_off ?_ ?_; kernel_rfl)
                iterate 1 (refine wpHead_step (fun K hK => ?_); go_simp; (refine hK _ ?_; clear hK K))
                refine wpHead_nil (wpPure_nil ?_)
                intro V3 hV3
                refine wpList_nil (nOnly_mk ?_)
                have hE3 := Ext.trans (Ext.drew wr) hV3
                have HKP3 := Lib.hid (HKP.out.transE hE3)
                have HRX3 := Lib.hid (HRX.out.ext hE3)
                have HRY3 := Lib.hid (HRY.out.ext hE3)
                clear hV3 hE3 e0 e1 e2 qB qT qX qY
                go_wp2
                go_roundg (gk - 1)
                case measure => omega
                case rel => exact ⟨j + 1, by omega, by rw [H2.out], by go_num, HKP3.out, by rw [H1.out]; exact HRX3.out, by rw [H1.out]; exact HRY3.out⟩
              · have hbnd : -1000000000000000 ≤ B x.s ∧ B x.s ≤ 1000000000000000 := (hbb.out x.s).resolve_left hB
                have hwb := wtI_bnd f x.w
                have HCW := Lib.hid (fun W => HWT.out x.w W)
                have HWR := Lib.hid (show IntKind.i64.wrap (B x.s + wtI f x.w) = B x.s + wtI f x.w by rw [i64_wrap, w64_id (by omega) (by omega)])
                have HBE := Lib.hid (show ¬ (B x.s + wtI f x.w) = ENDL by unfold ENDL; omega)
                have hdB : dstF B x.s = B x.s := if_neg hB
                rw [thrF_true hB] at qT
                rw [hdB] at qB
                clear hdB
                by_cases hD0 : D x.d = ENDL
                · have hd : B x.s + wtI f x.w < D x.d := by rw [hD0]; unfold ENDL; omega
                  have h1 := HRT.out
                  have h2 := HRB.out
                  rw [rlx_upd f B D x hB hd] at h1
                  rw [decide_eq_true (show B x.s ≠ ENDL ∧ B x.s + wtI f x.w < D x.d from ⟨hB, hd⟩), Bool.or_true] at h2
                  rw [thrF_false hD0] at qY
                  have H1 := Lib.hid h1
                  have H2 := Lib.hid h2
                  clear h1 h2 hB hD0 hd HRT HRB hbnd hwb
                  generalize wtI f x.w = wt at *
                  generalize hbw : B x.s + wt = bw at *
                  have HBW := Lib.hid hbw
                  clear hbw
                  go_upto_region 16 with fail
                  refine wp_region_row 29 0 (by kernel_rfl) (by kernel_rfl) ?_
                  simp only [List.take, List.drop]
                  iterate 5 (refine wpHead_step (fun K hK => ?_); go_simp; (refine hK _ ?_; clear hK K))
                  iterate 6 (with_reducible refine wpHead_on ?_ (fun K hK => ?_); kernel_rfl; go_simp; (refine hK _ ?_; clear hK K))
                  iterate 16 (with_reducible refine wpHead_off ?_ ?_; kernel_rfl)
                  iterate 1 (with_reducible refine wpHead_on ?_ (fun K hK => ?_); kernel_rfl; go_simp; (refine hK _ ?_; clear hK K))
                  iterate 1 (refine wpHead_step (fun K hK => ?_); go_simp; (refine hK _ ?_; clear hK K))
                  refine wpHead_nil (wpPure_nil ?_)
                  intro V3 hV3
                  refine wpList_nil (nOnly_mk ?_)
                  have hE3 := Ext.trans (Ext.drew wr) hV3
                  have hK3 := HKP.out.transE hE3
                  have hX3 := HRX.out.ext hE3
                  have hY3 := HRY.out.ext hE3
                  have e2' := hE3.cell e2
                  have qB' := hE3.cell qB
                  have lge3 : ge < V3.heap.size := by have := hE3.size; omega
                  have lg1 : g1 < V3.heap.size := by have := hE3.size; omega
                  have HK3 := Lib.hid hK3
                  have HX3 := Lib.hid hX3
                  have HY3 := Lib.hid hY3
                  have lx3 := hX3.lt
                  have ly3 := hY3.lt
                  clear hV3 hE3 e0 e1 e2 qB qT qX qY hK3 hX3 hY3
                  go_upto_region 17 with fail
                  refine wp_region_row 14 0 (by kernel_rfl) (by kernel_rfl) ?_
                  simp only [List.take, List.drop]
                  iterate 11 (refine wpHead_step (fun K hK => ?_); go_simp; (refine hK _ ?_; clear hK K))
                  refine wpHead_step (fun K hK => ?_); go_simp
                  (apply Exists.intro; refine ⟨fun W1 => ?_, hK _ ?_⟩)
                  · exact HCW.out _
                  clear hK K
                  iterate 2 (refine wpHead_step (fun K hK => ?_); go_simp; (refine hK _ ?_; clear hK K))
                  refine wpHead_nil (wpPure_nil ?_)
                  intro V4 hV4
                  rw [HBW.out, HWR.out]
                  have hE4 := Ext.trans (Ext.drew V3) hV4
                  have hK4 := HK3.out.transE hE4
                  have hX4 := HX3.out.ext hE4
                  have hY4 := HY3.out.ext hE4
                  have qX4 := hX4.get hxd
                  have fX4 := hX4.frozen x.d
                  simp only [i64V] at qX4
                  have lX4 := hX4.lt
                  have hP5 := Keep.setCell (S := [g3]) (Keep.refl [g3] V4) (p := ⟨g3, x.d, none⟩) (.inl (by simp)) (i64V bw)
                  have hK5 := hK4.trans hP5 (fun i hi _ => by simp at hi ⊢; exact .inl hi)
                  have hX5 := hX4.set hxd bw
                  have hY5 := hY4.keep hP5 (by simp; omega)
                  have qY5 := hY5.get hxd
                  have fY5 := hY5.frozen x.d
                  simp only [boolV] at qY5
                  have lY5 := hY5.lt
                  have hP6 := Keep.setCell (S := [g4]) (Keep.refl [g4] (V4.setCell ⟨g3, x.d, none⟩ (i64V bw))) (p := ⟨g4, x.d, none⟩) (.inl (by simp)) (boolV true)
                  have hK6 := hK5.trans hP6 (fun i hi _ => by simp at hi ⊢; exact .inr hi)
                  have hX6 := hX5.keep hP6 (by simp; omega)
                  have hY6 := hY5.set hxd true
                  have HK6 := Lib.hid hK6
                  have HX6 := Lib.hid hX6
                  have HY6 := Lib.hid hY6
                  simp only [i64V] at qY5 fY5 lY5
                  clear hV4 hE4 hK4 hX4 hY4 hP5 hK5 hX5 hY5 hP6 hK6 hX6 hY6 HK3 HX3 HY3 e2' qB'
                  go_simp
                  go_wp2
                  refine nOnly_mk ?_
                  go_wp2
                  go_roundg (gk - 1)
                  case measure => omega
                  case rel =>
                    refine ⟨j + 1, by omega, by rw [H2.out], by go_num, HK6.out, HX6.out.congr fun i _ => ?_, HY6.out.congr fun i _ => ?_⟩
                    · rw [H1.out]
                      by_cases hi : i = x.d
                      · rw [if_pos hi, dstF, if_pos hi, if_neg HBE.out]
                      · rw [if_neg hi, dstF, dstF, if_neg hi]
                    · rw [H1.out]
                      by_cases hi : i = x.d
                      · rw [if_pos hi]; exact (thrF_true (by rw [if_pos hi]; exact HBE.out)).symm
                      · rw [if_neg hi, thrF, thrF, if_neg hi]
                · have hdD : dstF D x.d = D x.d := if_neg hD0
                  rw [hdD] at qX
                  rw [thrF_true hD0] at qY
                  clear hdD
                  by_cases hd : B x.s + wtI f x.w < D x.d
                  · have h1 := HRT.out
                    have h2 := HRB.out
                    rw [rlx_upd f B D x hB hd] at h1
                    rw [decide_eq_true (show B x.s ≠ ENDL ∧ B x.s + wtI f x.w < D x.d from ⟨hB, hd⟩), Bool.or_true] at h2
                    have H1 := Lib.hid h1
                    have H2 := Lib.hid h2
                    clear h1 h2 hB hD0 HRT HRB hbnd hwb
                    generalize wtI f x.w = wt at *
                    generalize hbw : B x.s + wt = bw at *
                    have HBW := Lib.hid hbw
                    clear hbw
                    go_upto_region 16 with fail
                    refine wp_region_row 29 0 (by kernel_rfl) (by kernel_rfl) ?_
                    simp only [List.take, List.drop]
                    iterate 5 (refine wpHead_step (fun K hK => ?_); go_simp; (refine hK _ ?_; clear hK K))
                    iterate 6 (with_reducible refine wpHead_on ?_ (fun K hK => ?_); kernel_rfl; go_simp; (refine hK _ ?_; clear hK K))
                    iterate 9 (with_reducible refine wpHead_on ?_ (fun K hK => ?_); kernel_rfl; go_simp; (refine hK _ ?_; clear hK K))
                    with_reducible refine wpHead_on ?_ (fun K hK => ?_)
                    kernel_rfl
                    go_simp
                    (apply Exists.intro; refine ⟨fun W1 => ?_, hK _ ?_⟩)
                    · exact HCW.out _
                    clear hK K
                    iterate 6 (with_reducible refine wpHead_on ?_ (fun K hK => ?_); kernel_rfl; go_simp; (refine hK _ ?_; clear hK K))
                    iterate 1 (with_reducible refine wpHead_on ?_ (fun K hK => ?_); kernel_rfl; go_simp; (refine hK _ ?_; clear hK K))
                    iterate 1 (refine wpHead_step (fun K hK => ?_); go_simp; (refine hK _ ?_; clear hK K))
                    refine wpHead_nil (wpPure_nil ?_)
                    intro V3 hV3
                    refine wpList_nil (nOnly_mk ?_)
                    rw [HBW.out, HWR.out]
                    have hE3 := Ext.trans (Ext.drew wr) hV3
                    have hK3 := HKP.out.transE hE3
                    have hX3 := HRX.out.ext hE3
                    have hY3 := HRY.out.ext hE3
                    have e2' := hE3.cell e2
                    have qB' := hE3.cell qB
                    have lge3 : ge < V3.heap.size := by have := hE3.size; omega
                    have lg1 : g1 < V3.heap.size := by have := hE3.size; omega
                    have HK3 := Lib.hid hK3
                    have HX3 := Lib.hid hX3
                    have HY3 := Lib.hid hY3
                    have lx3 := hX3.lt
                    have ly3 := hY3.lt
                    clear hV3 hE3 e0 e1 e2 qB qT qX qY hK3 hX3 hY3
                    go_upto_region 17 with fail
                    refine wp_region_row 14 0 (by kernel_rfl) (by kernel_rfl) ?_
                    simp only [List.take, List.drop]
                    iterate 11 (refine wpHead_step (fun K hK => ?_); go_simp; (refine hK _ ?_; clear hK K))
                    refine wpHead_step (fun K hK => ?_); go_simp
                    (apply Exists.intro; refine ⟨fun W1 => ?_, hK _ ?_⟩)
                    · exact HCW.out _
                    clear hK K
                    iterate 2 (refine wpHead_step (fun K hK => ?_); go_simp; (refine hK _ ?_; clear hK K))
                    refine wpHead_nil (wpPure_nil ?_)
                    intro V4 hV4
                    rw [HBW.out, HWR.out]
                    have hE4 := Ext.trans (Ext.drew V3) hV4
                    have hK4 := HK3.out.transE hE4
                    have hX4 := HX3.out.ext hE4
                    have hY4 := HY3.out.ext hE4
                    have qX4 := hX4.get hxd
                    have fX4 := hX4.frozen x.d
                    simp only [i64V] at qX4
                    have lX4 := hX4.lt
                    have hP5 := Keep.setCell (S := [g3]) (Keep.refl [g3] V4) (p := ⟨g3, x.d, none⟩) (.inl (by simp)) (i64V bw)
                    have hK5 := hK4.trans hP5 (fun i hi _ => by simp at hi ⊢; exact .inl hi)
                    have hX5 := hX4.set hxd bw
                    have hY5 := hY4.keep hP5 (by simp; omega)
                    have qY5 := hY5.get hxd
                    have fY5 := hY5.frozen x.d
                    simp only [boolV] at qY5
                    have lY5 := hY5.lt
                    have hP6 := Keep.setCell (S := [g4]) (Keep.refl [g4] (V4.setCell ⟨g3, x.d, none⟩ (i64V bw))) (p := ⟨g4, x.d, none⟩) (.inl (by simp)) (boolV true)
                    have hK6 := hK5.trans hP6 (fun i hi _ => by simp at hi ⊢; exact .inr hi)
                    have hX6 := hX5.keep hP6 (by simp; omega)
                    have hY6 := hY5.set hxd true
                    have HK6 := Lib.hid hK6
                    have HX6 := Lib.hid hX6
                    have HY6 := Lib.hid hY6
                    simp only [i64V] at qY5 fY5 lY5
                    clear hV4 hE4 hK4 hX4 hY4 hP5 hK5 hX5 hY5 hP6 hK6 hX6 hY6 HK3 HX3 HY3 e2' qB'
                    go_simp
                    go_wp2
                    refine nOnly_mk ?_
                    go_wp2
                    go_roundg (gk - 1)
                    case measure => omega
                    case rel =>
                      refine ⟨j + 1, by omega, by rw [H2.out], by go_num, HK6.out, HX6.out.congr fun i _ => ?_, HY6.out.congr fun i _ => ?_⟩
                      · rw [H1.out]
                        by_cases hi : i = x.d
                        · rw [if_pos hi, dstF, if_pos hi, if_neg HBE.out]
                        · rw [if_neg hi, dstF, dstF, if_neg hi]
                      · rw [H1.out]
                        by_cases hi : i = x.d
                        · rw [if_pos hi]; exact (thrF_true (by rw [if_pos hi]; exact HBE.out)).symm
                        · rw [if_neg hi, thrF, thrF, if_neg hi]
                  · have hoff : ¬ (B x.s ≠ ENDL ∧ B x.s + wtI f x.w < D x.d) := fun h => hd h.2
                    have h1 := HRT.out
                    have h2 := HRB.out
                    rw [rlx_off f B D x hoff] at h1
                    rw [decide_eq_false hoff, Bool.or_false] at h2
                    have H1 := Lib.hid h1
                    have H2 := Lib.hid h2
                    clear h1 h2 hB hD0 HRT HRB hbnd hwb hoff
                    generalize wtI f x.w = wt at *
                    generalize hbw : B x.s + wt = bw at *
                    have HBW := Lib.hid hbw
                    clear hbw
                    go_upto_region 16 with fail
                    refine wp_region_row 29 0 (by kernel_rfl) (by kernel_rfl) ?_
                    simp only [List.take, List.drop]
                    iterate 5 (refine wpHead_step (fun K hK => ?_); go_simp; (refine hK _ ?_; clear hK K))
                    iterate 6 (with_reducible refine wpHead_on ?_ (fun K hK => ?_); kernel_rfl; go_simp; (refine hK _ ?_; clear hK K))
                    iterate 9 (with_reducible refine wpHead_on ?_ (fun K hK => ?_); kernel_rfl; go_simp; (refine hK _ ?_; clear hK K))
                    with_reducible refine wpHead_on ?_ (fun K hK => ?_)
                    kernel_rfl
                    go_simp
                    (apply Exists.intro; refine ⟨fun W1 => ?_, hK _ ?_⟩)
                    · exact HCW.out _
                    clear hK K
                    iterate 6 (with_reducible refine wpHead_on ?_ (fun K hK => ?_); kernel_rfl; go_simp; (refine hK _ ?_; clear hK K))
                    iterate 1 (with_reducible refine wpHead_on ?_ (fun K hK => ?_); kernel_rfl; go_simp; (refine hK _ ?_; clear hK K))
                    iterate 1 (refine wpHead_step (fun K hK => ?_); go_simp; (refine hK _ ?_; clear hK K))
                    refine wpHead_nil (wpPure_nil ?_)
                    intro V3 hV3
                    refine wpList_nil (nOnly_mk ?_)
                    rw [HBW.out, HWR.out]
                    have hE3 := Ext.trans (Ext.drew wr) hV3
                    have HKP3 := Lib.hid (HKP.out.transE hE3)
                    have HRX3 := Lib.hid (HRX.out.ext hE3)
                    have HRY3 := Lib.hid (HRY.out.ext hE3)
                    clear hV3 hE3 e0 e1 e2 qB qT qX qY
                    go_wp2
                    go_roundg (gk - 1)
                    case measure => omega
                    case rel => exact ⟨j + 1, by omega, by rw [H2.out], by go_num, HKP3.out, by rw [H1.out]; exact HRX3.out, by rw [H1.out]; exact HRY3.out⟩
            · have hjE : j = E.length := by omega
              subst hjE
              have HKP := Lib.hid hKp
              have HRX := Lib.hid hRx
              have HRY := Lib.hid hRy
              clear hKp hRx hRy
              go_wp2
              go_roundg (gk0 - 1)
              case measure => omega
              case rel => exact ⟨k + 1, g3, c3, g4, c4, by omega, rfl, rfl, by rw [HCk.out], by go_num, Ext.trans' (Ext.trans HX.out HX2.out) HKP.out (by simp; omega), by rw [HBk.out]; exact HRX.out, by rw [HBk.out]; exact HRY.out⟩
    · have hkn : n = k := by omega
      subst hkn
      have HX := Lib.hid hX
      clear hX hD hT
      go_wp2
      go_ret
      exact ⟨rfl, HX.out⟩
end Go.Proofs.Ytalpjipopipncaa
