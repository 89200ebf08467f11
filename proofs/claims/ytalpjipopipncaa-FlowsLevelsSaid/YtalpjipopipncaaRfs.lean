/- Rows of numbers by functions, and the walk of the document's SSSP. Conditions: those of each theorem. -/
import Derived.Test.YtalpjipopipncaaPw2
import Derived.Test.YtalpjipopipncaaWyf
namespace Go.Proofs.Ytalpjipopipncaa
open Go Go.RowKit

/-- A row of one cell each, told by a function. -/
def RowF {α : Type} (w : World) (g : Nat) (t : TypeId) (c : α → Value) (f : Nat → α) (n : Nat) : Prop := Row w g t 1 (fun x => #[c x]) ((List.range n).map f)
section
variable {α : Type} {w w' : World} {g n : Nat} {t : TypeId} {c : α → Value} {f : Nat → α}
theorem RowF.lt (h : RowF w g t c f n) : g < w.heap.size := Row.lt h
theorem RowF.keep {T : List Nat} (h : RowF w g t c f n) (hk : Keep T w w') (hn : g ∉ T) : RowF w' g t c f n := Row.keep h hk hn
theorem RowF.ext (h : RowF w g t c f n) (hk : Ext w w') : RowF w' g t c f n := Row.ext h hk
theorem RowF.frozen (h : RowF w g t c f n) (j : Nat) : w.frozen? ⟨g, j, none⟩ = false := Row.frozen h j
theorem RowF.get (h : RowF w g t c f n) {i : Nat} (hi : i < n) : w.cell? ⟨g, i, none⟩ = some (c (f i)) := by
  have := Row.cell h (i := i) (by simpa using hi) (j := 0) (by omega) (v := c (f i)) (by simp)
  simpa using this
theorem RowF.congr {f' : Nat → α} (h : RowF w g t c f n) (hf : ∀ i, i < n → f i = f' i) : RowF w g t c f' n := by
  have e : (List.range n).map f = (List.range n).map f' := List.map_congr_left fun i hi => hf i (List.mem_range.1 hi)
  unfold RowF at *
  rwa [← e]
theorem RowF.set (h : RowF w g t c f n) {i : Nat} (hi : i < n) (x : α) : RowF (w.setCell ⟨g, i, none⟩ (c x)) g t c (fun j => if j = i then x else f j) n := by
  have h1 := Row.set h (fun _ => rfl) (i := i) (by simpa using hi) (j := 0) (by omega) (v := c x) (s := x) (by simp)
  have e : ((List.range n).map f).set i x = (List.range n).map (fun j => if j = i then x else f j) := by
    refine List.ext_getElem (by simp) fun k h1 h2 => ?_
    simp only [List.getElem_set, List.getElem_map, List.getElem_range]
    by_cases hk : i = k
    · rw [if_pos hk, if_pos hk.symm]
    · rw [if_neg hk, if_neg (Ne.symm hk)]
  unfold RowF
  rw [← e]
  simpa using h1
theorem RowF.made (z : α) (w : World) (t : TypeId) (n : Nat) : RowF (w.alloc (.cells (madeCells #[c z] n) t)) w.heap.size t c (fun _ => z) n := by
  have h := row_made (k := 1) (enc := fun x => #[c x]) z rfl w t n _ rfl
  rw [Nat.mul_one] at h
  unfold RowF
  have e : (List.range n).map (fun _ => z) = List.replicate n z := List.ext_getElem (by simp) fun k h1 h2 => by simp
  rw [e]
  exact h
theorem RowF.flat_cell (h : RowF w g t c f n) {j : Nat} {u : Value} (hu : (flat (fun x => #[c x]) ((List.range n).map f))[j]? = some u) : w.cell? ⟨g, j, none⟩ = some u := Row.flat_cell h (fun _ => rfl) (by omega) hu
theorem rowF_len (c : α → Value) (f : Nat → α) (n : Nat) : (flat (fun x => #[c x]) ((List.range n).map f)).length = n * 1 := by rw [flat_length (k := 1) (enc := fun x => #[c x]) (fun _ => rfl)]; simp
end
def i64V (x : Int) : Value := .int .i64 x
def u64V (x : Int) : Value := .int .u64 x
def boolV (x : Bool) : Value := .bool x
theorem info2 : (Try.prog.info? 2).map (fun i => (i.zero, i.size, i.bytes)) = some (some (.int .i64 0), 1, 8) := by kernel_rfl
theorem info4 : (Try.prog.info? 4).map (fun i => (i.zero, i.size, i.bytes)) = some (some (.bool false), 1, 1) := by kernel_rfl

set_option maxHeartbeats 400000 in
theorem weight_any (k : Nat) (hk : k = 1 ∨ k = 2) (w : Nat) (W : World) : Calls Try.prog 26 #[.int .i64 k, .int .u32 w] W fun e W' => e = .returned (.int .i64 (wtI (kindF k) w)) ∧ Ext W W' := by
  rcases hk with rfl | rfl
  · go_enter Try.func26, Try.ntmps26
    go_wp2
    go_ret
    exact ⟨rfl, Ext.refl _⟩
  · go_enter Try.func26, Try.ntmps26
    go_wp2
    go_ret
    have e : wtI (kindF 2) w = wrap64 (wrap32 w) := if_neg (by decide)
    rw [e]
    exact ⟨rfl, Ext.refl _⟩

/-- Does the reference go on? -/
def chB (f : Nat) (E : List Edg) (s : Nat) : Nat → Bool
  | 0 => true
  | k + 1 => rlxB f E (bfD f E s k) E.length
theorem rlx_upd (f : Nat) (B D : Nat → Int) (x : Edg) (h1 : B x.s ≠ ENDL) (h2 : B x.s + wtI f x.w < D x.d) : rlx f B D x = fun v => if v = x.d then B x.s + wtI f x.w else D v := by
  funext v
  unfold rlx
  by_cases hv : v = x.d
  · subst hv; rw [if_pos ⟨h1, rfl, h2⟩, if_pos rfl]
  · rw [if_neg (fun h => hv h.2.1), if_neg hv]
theorem rlx_off (f : Nat) (B D : Nat → Int) (x : Edg) (h : ¬ (B x.s ≠ ENDL ∧ B x.s + wtI f x.w < D x.d)) : rlx f B D x = D := by
  funext v
  unfold rlx
  rw [if_neg]
  rintro ⟨h1, rfl, h2⟩
  exact h ⟨h1, h2⟩

set_option maxRecDepth 20000 in
set_option maxHeartbeats 4000000 in
theorem refSSSP_any (n s kd : Nat) (hn1 : 1 ≤ n) (hn4 : n ≤ 400) (hs : s < n) (hkd : kd = 1 ∨ kd = 2) (ao : Option Addr) (cap : Nat) (E : List Edg) (hlen : E.length ≤ 9223372036854775807) (hE : ∀ e ∈ E, e.s < n ∧ e.d < n ∧ e.w < 4294967296)
    (K : Nat) (hK : K < n) (hon : ∀ k, k ≤ K → chB (kindF kd) E s k = true) (hoff : chB (kindF kd) E s (K + 1) = false ∨ K + 1 = n) (w : World) (he : EdgesAt w ao E) :
    Calls Try.prog 21 #[.int .u32 n, .int .u32 s, .int .i64 kd, .slice ao E.length cap] w fun e w' => ∃ (g : Nat), e = .returned (.tuple #[.slice (some ⟨g, 0, none⟩) n n, .bool (chB (kindF kd) E s (K + 1))]) ∧ Ext w w' ∧ w.heap.size ≤ g ∧ RowF w' g 33 u64V (fun v => IntKind.u64.wrap (bfD (kindF kd) E s (K + 1) v)) n := by
  have hwt := fun w W => weight_any kd hkd w W
  generalize kindF kd = f at *
  obtain ⟨i0, hi, hz0, hz1, hz2⟩ := info_parts info2
  have hmk := fun W => run_make_rowN (P := Try.prog) 94 2 i0 _ Try.underlying94 hi hz0 .u32 .u32 n n (Nat.le_refl _) (by rw [hz2]; omega) (by omega) W
  rw [hz1] at hmk
  obtain ⟨j0, hj, hy0, hy1, hy2⟩ := info_parts info33
  have hmk2 := fun W => run_make_rowN (P := Try.prog) 42 33 j0 _ Try.underlying42 hj hy0 .u32 .u32 n n (Nat.le_refl _) (by rw [hy2]; omega) (by omega) W
  rw [hy1] at hmk2
  have HMK2 := Lib.hid hmk2
  have HI := Lib.hid hi
  have HZ0 := Lib.hid hz0
  have HZ1 := Lib.hid hz1
  have HZ2 := Lib.hid hz2
  have H0 : Hid (RowF (w.alloc (.cells (madeCells #[.int .i64 0] n) 2)) w.heap.size 2 i64V (fun _ => (0 : Int)) n) := Lib.hid (RowF.made (c := i64V) 0 w 2 n)
  have HE := Lib.hid he
  have HED := Lib.hid hE
  have HON := Lib.hid hon
  have HOFF := Lib.hid hoff
  have HWT := Lib.hid hwt
  have hsi : (s : Int) < (n : Int) := by omega
  clear he hE hi hz0 hz1 hz2 hj hy0 hy1 hy2 hmk2 hon hoff hwt
  go_enter Try.func21, Try.ntmps21
  go_wp2
  clear hmk
  go_loopg [11] n (fun m v wr => ∃ k : Nat, k + m = n ∧ v = .int .i64 k ∧ Ext w wr ∧ RowF wr w.heap.size 2 i64V (fun i => if i < k then ENDL else 0) n)
  case atStart => exact ⟨0, by omega, rfl, Ext.alloc _ _, H0.out.congr fun i _ => by rw [if_neg (by omega)]⟩
  clear H0
  case round =>
    obtain ⟨k, hk, rfl, hX, hRow⟩ := hrel
    have hgl : w.heap.size < wr.heap.size := hRow.lt
    by_cases hlt : k < n
    · have hkk : (k : Int) < (n : Int) := by omega
      have hc := hRow.get hlt
      simp only [i64V] at hc
      have hf := hRow.frozen k
      have hR2 := Lib.hid (hRow.set hlt ENDL)
      have hX2 := Lib.hid (Ext.trans' hX (Keep.setCell (S := [w.heap.size]) (Keep.refl [w.heap.size] wr) (p := ⟨w.heap.size, k, none⟩) (.inl (by simp)) (.int .i64 ENDL)) (by simp))
      clear hX hRow
      go_wp2
      go_roundg (gk - 1)
      case measure => omega
      case rel => exact ⟨k + 1, by omega, by go_num, hX2.out, hR2.out.congr fun i _ => by
        by_cases h1 : i = k
        · rw [if_pos h1, if_pos (by omega)]
        · rw [if_neg h1]
          by_cases h2 : i < k
          · rw [if_pos h2, if_pos (by omega)]
          · rw [if_neg h2, if_neg (by omega)]⟩
    · have hkn : n = k := by omega
      subst hkn
      have hRow1 : RowF wr w.heap.size 2 i64V (fun _ => ENDL) n := hRow.congr fun i hi => if_pos hi
      have hc := hRow1.get hs
      simp only [i64V] at hc
      have hf := hRow1.frozen s
      have hR2 := Lib.hid ((hRow1.set hs 0).congr (f' := bfD f E s 0) fun i _ => rfl)
      have hX2 := Lib.hid (Ext.trans' hX (Keep.setCell (S := [w.heap.size]) (Keep.refl [w.heap.size] wr) (p := ⟨w.heap.size, s, none⟩) (.inl (by simp)) (.int .i64 0)) (by simp))
      clear hX hRow hRow1
      go_wp2
      go_loopg [12, 13] (K + 1) (fun m ch r wr => ∃ k : Nat, k + m = K + 1 ∧ ch = .bool (chB f E s k) ∧ r = .int .u32 k ∧ Ext w wr ∧ RowF wr w.heap.size 2 i64V (bfD f E s k) n)
      case atStart => exact ⟨0, by omega, rfl, rfl, hX2.out, hR2.out⟩
      clear hR2 hX2 hc hf hgl
      case round =>
        obtain ⟨k, hk, rfl, rfl, hX, hRow⟩ := hrel
        have hgl : w.heap.size < wr.heap.size := hRow.lt
        by_cases hlt : k ≤ K
        · obtain ⟨gk0, hgk0⟩ : ∃ g0, g0 = gk := ⟨gk, rfl⟩
          subst hgk0
          have hkn : (k : Int) < (n : Int) := by omega
          rw [HON.out k hlt]
          have hbb := Lib.hid (fun v => bf_bnd f E s k v (by omega))
          have hBk : bfD f E s (k + 1) = rlxT f E (bfD f E s k) E.length := rfl
          have hCk : chB f E s (k + 1) = rlxB f E (bfD f E s k) E.length := rfl
          have HBk := Lib.hid hBk
          have HCk := Lib.hid hCk
          have HX := Lib.hid hX
          have HRow := Lib.hid hRow
          clear hBk hCk hX hRow
          generalize bfD f E s k = B at *
          go_wp2_with (at_builtin; refine wpList_append_own _ rfl (.tmp 42) (.tmp 43) 94 rfl wr.heap.size 2 i0 (.int .i64 0) 1 8 Try.underlying94 HI.out HZ0.out HZ1.out HZ2.out rfl (by omega) _ 0 [] rfl (World.ownsRow_made wr #[] 0 (Nat.le_refl _) (Nat.zero_le _) (by simp)) ⟨w.heap.size, 0, none⟩ n n (flat (fun x => #[i64V x]) ((List.range n).map B)) rfl (rowF_len i64V B n) ?c1 ?c2 ?c3 ?c4 ?c5 ?c6)
          case c1 =>
            intro j u hu
            rw [add_at, Nat.zero_add]
            exact (HRow.out.ext (Ext.alloc _ _)).flat_cell hu
          case c2 => exact flat_one (fun _ => by simp [i64V, Value.oneCell']) _
          case c3 => simp only [maxLen]; omega
          case c4 => omega
          case c5 => simp
          case c6 =>
            intro v' w1 hown hgr hnil
            clear hnil
            obtain ⟨g2, c2, rfl⟩ : ∃ g2 c2, v' = .slice (some ⟨g2, 0, none⟩) n c2 := by
              rcases hown.2 with ⟨_, h0⟩ | ⟨g2, c2, _, hv, _⟩
              · omega
              · exact ⟨g2, c2, hv⟩
            have hg2 : wr.heap.size ≤ g2 := by
              rcases hown.2 with ⟨h0, _⟩ | ⟨_, _, _, hv, hb, _⟩
              · cases h0
              · cases hv; exact hb
            have hX1 : Ext wr w1 := Keep.grown (Ext.alloc wr _) hgr (fun j hj => by simp [Value.ownBlock] at hj; exact .inr (by omega))
            have hRow2 : RowF w1 g2 2 i64V B n := Row.of_own (fun _ => rfl) hown (by simp)
            have hs1 : wr.heap.size ≤ w1.heap.size := hX1.size
            have hg21 : g2 < w1.heap.size := hRow2.lt
            have HRow1 := Lib.hid (HRow.out.ext hX1)
            have HX1 := Lib.hid (Ext.trans HX.out hX1)
            have HRow2 := Lib.hid hRow2
            clear hown hgr hX1 hRow2 HRow HX
            go_wp2
            go_loopg [12, 15] E.length (fun m ch v wv => ∃ j : Nat, j + m = E.length ∧ ch = .bool (rlxB f E B j) ∧ v = .int .i64 j ∧ Keep [w.heap.size] w1 wv ∧ RowF wv w.heap.size 2 i64V (rlxT f E B j) n)
            case atStart => exact ⟨0, by omega, rfl, rfl, Keep.refl _ _, HRow1.out⟩
            case round =>
              obtain ⟨j, hj, rfl, rfl, hKp, hRo⟩ := hrel
              by_cases hjl : j < E.length
              · have hjj : (j : Int) < (E.length : Int) := by omega
                obtain ⟨ge, rfl, hge⟩ := HE.out (by intro h; subst h; simp at hjl)
                have hgel : ge < w.heap.size := hge.lt
                have hgB : ge ≠ w.heap.size := by omega
                have hgg : w.heap.size < g2 := by omega
                have hge1 : Row wr ge 51 3 edC E := ((hge.ext HX1.out).keep hKp (by simp; omega))
                have hR2 : RowF wr g2 2 i64V B n := HRow2.out.keep hKp (by simp; omega)
                obtain ⟨hxs, hxd, hxw⟩ := HED.out E[j] (List.getElem_mem hjl)
                have hAx : At wr ge (j * 3) (edC E[j]) := hge1.at edC_size hjl
                have hgd : E.getD j ⟨0, 0, 0⟩ = E[j] := by simp [List.getD_eq_getElem?_getD, List.getElem?_eq_getElem hjl]
                have hrT : rlxT f E B (j + 1) = rlx f B (rlxT f E B j) E[j] := by rw [rlxT, hgd]
                have hrB : rlxB f E B (j + 1) = (rlxB f E B j || decide (B E[j].s ≠ ENDL ∧ B E[j].s + wtI f E[j].w < rlxT f E B j E[j].d)) := by rw [rlxB, hgd]
                have hws : w1.heap.size ≤ wr.heap.size := hKp.size
                generalize E[j] = x at *
                generalize rlxT f E B j = D at *
                generalize rlxB f E B j = bo at *
                have HAx := Lib.hid hAx
                have HRT := Lib.hid hrT
                have HRB := Lib.hid hrB
                have HKp := Lib.hid hKp
                have HRo := Lib.hid hRo
                have HR2 := Lib.hid hR2
                clear hge hge1 hAx hgd hrT hrB hKp hRo hR2
                go_upto_region 17 with (first | (refine wpList_load_at rfl 51 _ rfl _ rfl HAx.out Try.underlying51 rfl i51 ?_) | (refine wpList_store_at rfl 51 _ _ rfl rfl rfl (At.new (edC ⟨0, 0, 0⟩) 51 rfl) i51 rfl (edC_one _) ?_))
                have hP := keep_wput (wr.alloc (.cells (edC ⟨0, 0, 0⟩) 51)) wr.heap.size 0 (edC x)
                have hEV : Ext wr (wput (wr.alloc (.cells (edC ⟨0, 0, 0⟩) 51)) wr.heap.size 0 (edC x)) := Ext.trans' (Ext.alloc wr _) hP (by simp)
                have hAV : At (wput (wr.alloc (.cells (edC ⟨0, 0, 0⟩) 51)) wr.heap.size 0 (edC x)) wr.heap.size 0 (edC x) := (At.new (edC ⟨0, 0, 0⟩) 51 rfl).put rfl
                change Code.wp _ _ _ _ (wput (wr.alloc (.cells (edC ⟨0, 0, 0⟩) 51)) wr.heap.size 0 (edC x))
                have hBr : wr.heap.size < (wput (wr.alloc (.cells (edC ⟨0, 0, 0⟩) 51)) wr.heap.size 0 (edC x)).heap.size := by rw [wput_size]; simp
                generalize wput (wr.alloc (.cells (edC ⟨0, 0, 0⟩) 51)) wr.heap.size 0 (edC x) = V at *
                have hKV : Keep [w.heap.size] w1 V := HKp.out.transE hEV
                have hDV := HRo.out.ext hEV
                have hBV := HR2.out.ext hEV
                generalize wr.heap.size = bx at *
                have e0 : V.cell? ⟨bx, 0, none⟩ = some (.int .u32 x.s) := hAV.cell (j := 0) rfl
                have e1 : V.cell? ⟨bx, 1, none⟩ = some (.int .u32 x.d) := by simpa using hAV.cell (j := 1) (v := .int .u32 x.d) rfl
                have e2 : V.cell? ⟨bx, 2, none⟩ = some (.int .u32 x.w) := by simpa using hAV.cell (j := 2) (v := .int .u32 x.w) rfl
                have q1 := hBV.get hxs
                have q2 := hDV.get hxd
                simp only [i64V] at q1 q2
                have fz := hDV.frozen x.d
                have hxsi : (x.s : Int) < (n : Int) := by omega
                have hxdi : (x.d : Int) < (n : Int) := by omega
                have l1 : g2 < V.heap.size := hBV.lt
                have l2 : w.heap.size < V.heap.size := hDV.lt
                have HKV := Lib.hid hKV
                have HDV := Lib.hid hDV
                clear hP hEV hAV hKV hDV hBV HAx HKp HRo HR2
                by_cases hB : B x.s = ENDL
                · have hoff : ¬ (B x.s ≠ ENDL ∧ B x.s + wtI f x.w < D x.d) := fun h => h.1 hB
                  have h1 := HRT.out
                  have h2 := HRB.out
                  rw [rlx_off f B D x hoff] at h1
                  rw [decide_eq_false hoff, Bool.or_false] at h2
                  rw [hB] at q1
                  simp only [ENDL] at q1
                  have H1 := Lib.hid h1
                  have H2 := Lib.hid h2
                  clear h1 h2 hoff hB HRT HRB
                  go_wp2
                  go_roundg (gk - 1)
                  case measure => omega
                  case rel => exact ⟨j + 1, by omega, by rw [H2.out], by go_num, HKV.out, by rw [H1.out]; exact HDV.out⟩
                · have hbnd : -1000000000000000 ≤ B x.s ∧ B x.s ≤ 1000000000000000 := (hbb.out x.s).resolve_left hB
                  have hBn : ¬ B x.s = 9223372036854775807 := hB
                  have hwb := wtI_bnd f x.w
                  have hcw := fun W => HWT.out x.w W
                  have HCW := Lib.hid hcw
                  have hwr : IntKind.i64.wrap (B x.s + wtI f x.w) = B x.s + wtI f x.w := by rw [i64_wrap, w64_id (by omega) (by omega)]
                  have HWR := Lib.hid hwr
                  clear hcw hwr hbnd hwb
                  by_cases hd : B x.s + wtI f x.w < D x.d
                  · have h1 := HRT.out
                    have h2 := HRB.out
                    rw [rlx_upd f B D x hB hd] at h1
                    rw [decide_eq_true (show B x.s ≠ ENDL ∧ B x.s + wtI f x.w < D x.d from ⟨hB, hd⟩), Bool.or_true] at h2
                    have H1 := Lib.hid h1
                    have H2 := Lib.hid h2
                    clear h1 h2 hB HRT HRB
                    generalize wtI f x.w = wt at *
                    generalize hbw : B x.s + wt = bw at *
                    have HBW := Lib.hid hbw
                    clear hbw
                    go_upto_region 18 with fail
                    refine wp_region_row 11 0 (by kernel_rfl) (by kernel_rfl) ?_
                    simp only [List.take, List.drop]
                    iterate 8 (refine wpHead_step (fun K hK => ?_); go_simp; (refine hK _ ?_; clear hK K))
                    refine wpHead_step (fun K hK => ?_); go_simp
                    (apply Exists.intro; refine ⟨fun W1 => ?_, hK _ ?_⟩)
                    · exact HCW.out _
                    clear hK K
                    iterate 2 (refine wpHead_step (fun K hK => ?_); go_simp; (refine hK _ ?_; clear hK K))
                    refine wpHead_nil (wpPure_nil ?_)
                    intro V2 hV2
                    refine wpList_nil (nOnly_mk ?_)
                    rw [HBW.out, HWR.out]
                    have hE2 : Ext V V2 := Ext.trans (Ext.drew V) hV2
                    have e1' := hE2.cell e1
                    have q2' := hE2.cell q2
                    have hD2 := HDV.out.ext hE2
                    have fz' := hD2.frozen x.d
                    have l2' := hD2.lt
                    have hK2 := HKV.out.transE hE2
                    have hD3 := hD2.set hxd bw
                    have hK3 := hK2.trans (T := [w.heap.size]) (Keep.setCell (Keep.refl _ V2) (p := ⟨w.heap.size, x.d, none⟩) (.inl (by simp)) (i64V bw)) (fun _ h _ => h)
                    simp only [i64V] at hD3 hK3
                    have HD3 := Lib.hid hD3
                    have HK3 := Lib.hid hK3
                    clear hV2 hE2 hD2 hK2 hD3 hK3 HKV HDV e0 e1 e2 q1 q2 fz
                    go_wp2
                    go_roundg (gk - 1)
                    case measure => omega
                    case rel => exact ⟨j + 1, by omega, by rw [H2.out], by go_num, HK3.out, by rw [H1.out]; exact HD3.out⟩
                  · have hoff : ¬ (B x.s ≠ ENDL ∧ B x.s + wtI f x.w < D x.d) := fun h => hd h.2
                    have h1 := HRT.out
                    have h2 := HRB.out
                    rw [rlx_off f B D x hoff] at h1
                    rw [decide_eq_false hoff, Bool.or_false] at h2
                    have H1 := Lib.hid h1
                    have H2 := Lib.hid h2
                    clear h1 h2 hB HRT HRB hoff
                    generalize wtI f x.w = wt at *
                    generalize hbw : B x.s + wt = bw at *
                    have HBW := Lib.hid hbw
                    clear hbw
                    go_upto_region 18 with fail
                    refine wp_region_row 11 0 (by kernel_rfl) (by kernel_rfl) ?_
                    simp only [List.take, List.drop]
                    iterate 8 (refine wpHead_step (fun K hK => ?_); go_simp; (refine hK _ ?_; clear hK K))
                    refine wpHead_step (fun K hK => ?_); go_simp
                    (apply Exists.intro; refine ⟨fun W1 => ?_, hK _ ?_⟩)
                    · exact HCW.out _
                    clear hK K
                    iterate 2 (refine wpHead_step (fun K hK => ?_); go_simp; (refine hK _ ?_; clear hK K))
                    refine wpHead_nil (wpPure_nil ?_)
                    intro V2 hV2
                    refine wpList_nil (nOnly_mk ?_)
                    rw [HBW.out, HWR.out]
                    have hE2 : Ext V V2 := Ext.trans (Ext.drew V) hV2
                    have e1' := hE2.cell e1
                    have q2' := hE2.cell q2
                    have hD2 := HDV.out.ext hE2
                    have l2' := hD2.lt
                    have HD2 := Lib.hid hD2
                    have HK2 := Lib.hid (HKV.out.transE hE2)
                    clear hV2 hE2 hD2 HKV HDV e0 e1 e2 q1 q2 fz
                    go_wp2
                    go_roundg (gk - 1)
                    case measure => omega
                    case rel => exact ⟨j + 1, by omega, by rw [H2.out], by go_num, HK2.out, by rw [H1.out]; exact HD2.out⟩
              · have hjE : j = E.length := by omega
                subst hjE
                have HKp := Lib.hid hKp
                have HRo := Lib.hid hRo
                clear hKp hRo
                go_wp2
                go_roundg (gk0 - 1)
                case measure => omega
                case rel => exact ⟨k + 1, by omega, by rw [HCk.out], by go_num, Ext.trans' HX1.out HKp.out (by simp), by rw [HBk.out]; exact HRo.out⟩
        · have hkK : k = K + 1 := by omega
          subst hkK
          have HX := Lib.hid hX
          have HRow := Lib.hid hRow
          have HO := Lib.hid (show chB f E s (K + 1) = false ∧ (K : Int) + 1 < (n : Int) ∨ ¬ (K : Int) + 1 < (n : Int) from HOFF.out.elim (fun h => if h2 : (K : Int) + 1 < (n : Int) then .inl ⟨h, h2⟩ else .inr h2) (fun h => .inr (by omega)))
          have hki : ((K + 1 : Nat) : Int) = (K : Int) + 1 := by omega
          clear hX hRow HON HOFF HI HZ0 HZ1 HZ2 HE HWT
          rw [hki]
          clear hki
          generalize hbo : chB f E s (K + 1) = bo at *
          have HBO := Lib.hid hbo
          clear hbo
          rcases HO.out with ⟨rfl, hkn⟩ | hkn
          all_goals
            have hmk3 := HMK2.out
            go_upto_region 22 with fail
            have H0 : Hid (RowF (wr.alloc (.cells (madeCells #[.int .u64 0] n) 33)) wr.heap.size 33 u64V (fun _ => (0 : Int)) n) := Lib.hid (RowF.made (c := u64V) 0 wr 33 n)
            rw [Nat.mul_one] at hmk3
            go_wp2
            clear hmk3
            have hXr := HX.out
            have hRr := HRow.out
            generalize hg3 : wr.heap.size = g3 at *
            have HG3 := Lib.hid hg3
            clear hg3
            go_loopg [19] n (fun m v wv => ∃ i : Nat, i + m = n ∧ v = .int .i64 i ∧ Ext wr wv ∧ RowF wv g3 33 u64V (fun j => if j < i then IntKind.u64.wrap (bfD f E s (K + 1) j) else 0) n)
            case atStart => exact ⟨0, by omega, rfl, Ext.alloc _ _, H0.out.congr fun i _ => by rw [if_neg (by omega)]⟩
            clear H0
            case round =>
              obtain ⟨i, hi, rfl, hX3, hR3⟩ := hrel
              have hR2 := hRr.ext hX3
              have l2 : w.heap.size < wr.heap.size := hR2.lt
              have l3 : g3 < wr.heap.size := hR3.lt
              by_cases hil : i < n
              · have hii : (i : Int) < (n : Int) := by omega
                have q1 := hR2.get hil
                have q3 := hR3.get hil
                have fz := hR3.frozen i
                simp only [i64V, u64V] at q1 q3
                have HR4 := Lib.hid (hR3.set hil (IntKind.u64.wrap (bfD f E s (K + 1) i)))
                have hX4 := Ext.trans' hX3 (Keep.setCell (S := [g3]) (Keep.refl [g3] wr) (p := ⟨g3, i, none⟩) (.inl (by simp)) (u64V (IntKind.u64.wrap (bfD f E s (K + 1) i)))) (by simp; exact Nat.le_of_eq HG3.out)
                have HX4 := Lib.hid hX4
                clear hX3 hR3 hX4 hR2 hXr hRr
                generalize hbi : bfD f E s (K + 1) i = bi at *
                have HBI := Lib.hid hbi
                clear hbi
                go_wp2
                go_roundg (gk - 1)
                case measure => omega
                case rel => exact ⟨i + 1, by omega, by go_num, HX4.out, HR4.out.congr fun j hj => by
                  by_cases h1 : j = i
                  · rw [if_pos h1, if_pos (by omega), h1, HBI.out]
                  · rw [if_neg h1]
                    by_cases h2 : j < i
                    · rw [if_pos h2, if_pos (by omega)]
                    · rw [if_neg h2, if_neg (by omega)]⟩
              · have hin : i = n := by omega
                have HX3 := Lib.hid hX3
                have HR3 := Lib.hid hR3
                have HXr := Lib.hid hXr
                clear hX3 hR3 hR2 hXr hRr
                go_wp2
                go_ret2
                rw [HBO.out]
                exact ⟨g3, rfl, Ext.trans HXr.out HX3.out, by omega, HR3.out.congr fun j hj => if_pos (by omega)⟩
end Go.Proofs.Ytalpjipopipncaa
