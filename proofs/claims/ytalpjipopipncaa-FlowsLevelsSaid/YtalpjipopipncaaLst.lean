/- The walks of a graph's size and of its list of edges. Conditions: those of each theorem. -/
import Derived.Test.YtalpjipopipncaaLbf
import Derived.Deep.Slices
namespace Go.Proofs.Ytalpjipopipncaa
open Go Go.RowKit

/-- The number of vertices that a law makes of a graph's number. -/
def sizeN (N : Int) : Nat := (min (max N 1) 400).toNat
theorem sizeN_pos (N : Int) : 1 ≤ sizeN N := by unfold sizeN; omega
theorem sizeN_le (N : Int) : sizeN N ≤ 400 := by unfold sizeN; omega

set_option maxHeartbeats 1000000 in
theorem size_any (N : Int) (s : Value) (_hs : s.oneCell' = true) (w : World) : Calls Try.prog 10 #[.agg #[.int .i64 N, s]] w fun e w' => e = .returned (.int .u32 (sizeN N)) ∧ Ext w w' := by
  go_enter Try.func10, Try.ntmps10
  have e : ((sizeN N : Nat) : Int) = min (max N 1) 400 := by unfold sizeN; omega
  go_wp2
  all_goals
    go_ret
    refine ⟨?_, Ext.alloc _ _⟩
    refine congrArg (fun x => Ending.returned (.int .u32 x)) (?_ : (_ : Int) = _)
    omega

/-- The edges that a law makes of a graph's. -/
def listE (n : Nat) (kind : Int) (E : List Edg) : List Edg := E.map fun x => ⟨x.s % n, x.d % n, if kind = 1 then 0 else x.w⟩
theorem listE_length (n : Nat) (kind : Int) (E : List Edg) : (listE n kind E).length = E.length := by simp [listE]

/-- A slice of edges in memory, wherever it begins. -/
def EdgesIn (w : World) (ao : Option Addr) (E : List Edg) : Prop := E ≠ [] → ∃ a, ao = some a ∧ ∀ (i : Nat) (h : i < E.length), w.cell? (a.add (i * 3)) = some (.int .u32 (E[i].s : Nat)) ∧ w.cell? (a.add (i * 3 + 1)) = some (.int .u32 (E[i].d : Nat)) ∧ w.cell? (a.add (i * 3 + 2)) = some (.int .u32 (E[i].w : Nat))
theorem EdgesIn.ext {w w' : World} {ao : Option Addr} {E : List Edg} (h : EdgesIn w ao E) (hk : Ext w w') : EdgesIn w' ao E := fun hE => by
  obtain ⟨a, h1, h2⟩ := h hE
  exact ⟨a, h1, fun i hi => ⟨hk.cell (h2 i hi).1, hk.cell (h2 i hi).2.1, hk.cell (h2 i hi).2.2⟩⟩
theorem info51 : (Try.prog.info? 51).map (fun i => (i.zero, i.size, i.bytes)) = some (some (.agg (edC ⟨0, 0, 0⟩)), 3, 12) := by kernel_rfl

set_option maxRecDepth 20000 in
set_option maxHeartbeats 4000000 in
theorem list_any (N : Int) (ao : Option Addr) (cap : Nat) (E : List Edg) (kind : Int) (hlen : E.length ≤ 11728124029269) (hE : ∀ e ∈ E, e.s < 4294967296 ∧ e.d < 4294967296 ∧ e.w < 4294967296) (w : World) (he : EdgesIn w ao E) :
    Calls Try.prog 11 #[.agg #[.int .i64 N, .slice ao E.length cap], .int .i64 kind] w fun e w' => ∃ (bo : Option Addr) (c : Nat), e = .returned (.slice bo E.length c) ∧ Ext w w' ∧ EdgesAt w' bo (listE (sizeN N) kind E) ∧ ∀ ge, bo = some ⟨ge, 0, none⟩ → w.heap.size ≤ ge ∧ ge < w'.heap.size := by
  obtain ⟨i0, hi, hz0, hz1, hz2⟩ := info_parts info51
  have HI := Lib.hid hi
  have HZ0 := Lib.hid hz0
  have HZ1 := Lib.hid hz1
  have HZ2 := Lib.hid hz2
  have HE := Lib.hid he
  have HED := Lib.hid hE
  clear he hE hi hz0 hz1 hz2
  go_enter Try.func11, Try.ntmps11
  go_wp2
  go_loopg [5, 6] E.length (fun n s v wr => ∃ k : Nat, k + n = E.length ∧ v = .int .i64 k ∧ Ext (w.alloc (.cells #[.int .i64 N, .slice ao E.length cap] 24)) wr ∧ wr.ownsRow (w.heap.size + 1) 51 3 s k (flat edC ((listE (sizeN N) kind E).take k)))
  case atStart => exact ⟨0, by omega, rfl, Ext.refl _, World.ownsRow_nil _ _ _ _⟩
  case round =>
    obtain ⟨k, hk, rfl, hX, hOwn⟩ := hrel
    have hs0 : w.heap.size + 1 ≤ wr.heap.size := by have := hX.size; simpa using this
    have hG : wr.heap[w.heap.size]? = some (.cells #[.int .i64 N, .slice ao E.length cap] 24 (0, 0)) := hX.heap (heap_alloc_new w _)
    have g1 : wr.cell? ⟨w.heap.size, 1, none⟩ = some (.slice ao E.length cap) := cell_of_row wr w.heap.size 1 _ _ _ hG
    by_cases hlt : k < E.length
    · have hkk : (k : Int) < (E.length : Int) := by omega
      obtain ⟨ad, rfl, hge⟩ := (HE.out.ext (Ext.trans (Ext.alloc _ _) hX)) (by intro h; subst h; simp at hlt)
      have hsB : u5.ownBlock ≠ some wr.heap.size := fun e => by have := (hOwn.lt _ e).2; omega
      obtain ⟨e0, e1, e2⟩ := hge k hlt
      have e1' : wr.cell? ⟨(ad.add (k * 3)).block, (ad.add (k * 3)).off + 1, none⟩ = some (.int .u32 (E[k].d : Nat)) := by rw [← e1, ← Go.Deep.add_add]; rfl
      have e2' : wr.cell? ⟨(ad.add (k * 3)).block, (ad.add (k * 3)).off + 2, none⟩ = some (.int .u32 (E[k].w : Nat)) := by rw [← e2, ← Go.Deep.add_add]; rfl
      clear e1 e2
      obtain ⟨hxs, hxd, hxw⟩ := HED.out E[k] (List.getElem_mem hlt)
      have htk : (listE (sizeN N) kind E).take (k + 1) = (listE (sizeN N) kind E).take k ++ [⟨E[k].s % sizeN N, E[k].d % sizeN N, if kind = 1 then 0 else E[k].w⟩] := by
        rw [List.take_succ_eq_append_getElem (by rw [listE_length]; exact hlt)]
        simp [listE]
      have hnz : ¬ sizeN N = 0 := by have := sizeN_pos N; omega
      have hsz : sizeN N ≤ 400 := sizeN_le N
      generalize E[k] = x at *
      obtain ⟨s', hs'⟩ : ∃ s', x.s % sizeN N = s' := ⟨_, rfl⟩
      obtain ⟨d', hd'⟩ : ∃ d', x.d % sizeN N = d' := ⟨_, rfl⟩
      have hts : ((x.s : Nat) : Int).tmod ((sizeN N : Nat) : Int) = ((s' : Nat) : Int) := by rw [← hs', Int.ofNat_tmod]
      have htd : ((x.d : Nat) : Int).tmod ((sizeN N : Nat) : Int) = ((d' : Nat) : Int) := by rw [← hd', Int.ofNat_tmod]
      rw [hs', hd'] at htk
      have HTK := Lib.hid htk
      have HX := Lib.hid hX
      have HOwn := Lib.hid hOwn
      have HG := Lib.hid hG
      clear hge htk hX hOwn hG
      go_upto_region 6 with fail
      have hN1 : (wr.alloc (.cells #[.int .u32 x.s, .int .u32 x.d, .int .u32 x.w] 51)).heap[wr.heap.size]? = some (.cells #[.int .u32 x.s, .int .u32 x.d, .int .u32 x.w] 51 (0, 0)) := heap_alloc_new wr _
      have hE1 : Ext wr (wr.alloc (.cells #[.int .u32 x.s, .int .u32 x.d, .int .u32 x.w] 51)) := Ext.alloc _ _
      have hB1 : wr.heap.size < (wr.alloc (.cells #[.int .u32 x.s, .int .u32 x.d, .int .u32 x.w] 51)).heap.size := by simp
      have hBr : w.heap.size + 1 ≤ wr.heap.size := hs0
      have HX1 := Lib.hid (Ext.trans HX.out hE1)
      have HG1 := Lib.hid (hE1.heap HG.out)
      have HO1 := Lib.hid (ownsRow_keep HOwn.out hE1 (by simp))
      clear HX HG HOwn hE1 e0 e1' e2'
      generalize wr.alloc (.cells #[.int .u32 x.s, .int .u32 x.d, .int .u32 x.w] 51) = V at *
      clear g1
      generalize wr.heap.size = B at *
      clear wr
      have b0 : V.cell? ⟨B, 0, none⟩ = some (.int .u32 x.s) := cell_of_row V B 0 _ _ _ hN1
      have f0 : ∀ j, V.frozen? ⟨B, j, none⟩ = false := fun j => frozen_of_row V B j _ _ hN1
      have hgV : w.heap.size < V.heap.size := by omega
      refine wp_region_row 6 0 (by kernel_rfl) (by kernel_rfl) ?_
      simp only [List.take, List.drop]
      iterate 2 (refine wpHead_step (fun K hK => ?_); go_simp; (refine hK _ ?_; clear hK K))
      refine wpHead_load_at rfl 24 _ rfl _ rfl (At.whole HG1.out).drew Try.underlying24 rfl i24 ?_
      refine wpHead_step (fun K hK => ?_); go_simp
      (apply Exists.intro; refine ⟨fun W1 => ?_, hK _ ?_⟩)
      · exact size_any N _ rfl _
      clear hK K
      refine wpHead_step (fun K hK => ?_); go_simp
      (refine hK _ ?_; clear hK K)
      refine wpHead_step (fun K hK => ?_); go_simp; (refine hK _ ?_; clear hK K)
      refine wpHead_nil (wpPure_nil ?_)
      intro w2 hw2
      have hE2 : Ext V w2 := Ext.trans (Ext.drew V) hw2
      have hN2 := hE2.heap hN1
      have hf2 := frozen_of_row w2 B 0 _ _ hN2
      have hc2 := cell_of_row w2 B 0 _ _ _ hN2
      have hB2 : B < w2.heap.size := by have := hE2.size; omega
      have HX2 := Lib.hid (Ext.trans HX1.out hE2)
      have HG2 := Lib.hid (hE2.heap HG1.out)
      have HO2 := Lib.hid (ownsRow_keep HO1.out hE2 (by simp))
      clear HX1 HG1 HO1 hw2 hE2 hN1 b0 f0 hgV hB1 V
      go_wp2
      refine nOnly_mk ?_
      have hP3 : Keep [B] w2 (w2.setCell ⟨B, 0, none⟩ (.int .u32 s')) := Keep.setCell (Keep.refl _ _) (.inl (by simp)) _
      have hN3 : (w2.setCell ⟨B, 0, none⟩ (.int .u32 s')).heap[B]? = some (.cells #[.int .u32 s', .int .u32 x.d, .int .u32 x.w] 51 (0, 0)) := heap_setCell_same w2 B 0 _ _ _ hN2
      have HX3 := Lib.hid (Ext.trans' HX2.out hP3 (by simp; omega))
      have HG3 := Lib.hid (hP3.heap HG2.out (by simp; omega))
      have HO3 := Lib.hid (ownsRow_keep HO2.out hP3 (by simpa using hsB))
      clear HX2 HG2 HO2 hP3 hN2 hf2 hc2
      have hB3 : B < (w2.setCell ⟨B, 0, none⟩ (.int .u32 s')).heap.size := by simpa [World.setCell] using hB2
      generalize w2.setCell ⟨B, 0, none⟩ (.int .u32 s') = V at *
      clear hB2 w2
      have b1 : V.cell? ⟨B, 1, none⟩ = some (.int .u32 x.d) := cell_of_row V B 1 _ _ _ hN3
      have hgV : w.heap.size < V.heap.size := by omega
      go_upto_region 7 with fail
      refine wp_region_row 6 0 (by kernel_rfl) (by kernel_rfl) ?_
      simp only [List.take, List.drop]
      iterate 2 (refine wpHead_step (fun K hK => ?_); go_simp; (refine hK _ ?_; clear hK K))
      refine wpHead_load_at rfl 24 _ rfl _ rfl (At.whole HG3.out).drew Try.underlying24 rfl i24 ?_
      refine wpHead_step (fun K hK => ?_); go_simp
      (apply Exists.intro; refine ⟨fun W1 => ?_, hK _ ?_⟩)
      · exact size_any N _ rfl _
      clear hK K
      iterate 2 (refine wpHead_step (fun K hK => ?_); go_simp; (refine hK _ ?_; clear hK K))
      refine wpHead_nil (wpPure_nil ?_)
      intro w4 hw4
      have hE4 : Ext V w4 := Ext.trans (Ext.drew V) hw4
      have hN4 := hE4.heap hN3
      have hf4 := frozen_of_row w4 B 1 _ _ hN4
      have hc4 := cell_of_row w4 B 1 _ _ _ hN4
      have hB4 : B < w4.heap.size := by have := hE4.size; omega
      have HX4 := Lib.hid (Ext.trans HX3.out hE4)
      have HG4 := Lib.hid (hE4.heap HG3.out)
      have HO4 := Lib.hid (ownsRow_keep HO3.out hE4 (by simp))
      clear HX3 HG3 HO3 hw4 hE4 hN3 b1 hgV hB3 V
      go_wp2
      refine nOnly_mk ?_
      have hP5 : Keep [B] w4 (w4.setCell ⟨B, 1, none⟩ (.int .u32 d')) := Keep.setCell (Keep.refl _ _) (.inl (by simp)) _
      have hN5 : (w4.setCell ⟨B, 1, none⟩ (.int .u32 d')).heap[B]? = some (.cells #[.int .u32 s', .int .u32 d', .int .u32 x.w] 51 (0, 0)) := heap_setCell_same w4 B 1 _ _ _ hN4
      have HX5 := Lib.hid (Ext.trans' HX4.out hP5 (by simp; omega))
      have HO5 := Lib.hid (ownsRow_keep HO4.out hP5 (by simpa using hsB))
      clear HX4 HG4 HO4 hP5 hN4 hf4 hc4
      have hB5 : B < (w4.setCell ⟨B, 1, none⟩ (.int .u32 d')).heap.size := by simpa [World.setCell] using hB4
      generalize w4.setCell ⟨B, 1, none⟩ (.int .u32 d') = V at *
      clear hB4 w4
      have f2 := frozen_of_row V B 2 _ _ hN5
      have c2 := cell_of_row V B 2 _ _ _ hN5
      go_upto_if 33 with fail
      go_cut [] (fun wv => wv.heap[B]? = some (.cells #[.int .u32 s', .int .u32 d', .int .u32 ((if kind = 1 then 0 else x.w : Nat) : Int)] 51 (0, 0)) ∧ Ext (w.alloc (.cells #[.int .i64 N, .slice (some ad) E.length cap] 24)) wv ∧ wv.ownsRow (w.heap.size + 1) 51 3 u5 k (flat edC ((listE (sizeN N) kind E).take k)))
      case first =>
        by_cases hkd : kind = 1
        · subst hkd
          go_wp2
          go_meet
          case rel =>
            have hP : Keep [B] V (V.setCell ⟨B, 2, none⟩ (.int .u32 0)) := Keep.setCell (Keep.refl _ _) (.inl (by simp)) _
            exact ⟨heap_setCell_same V B 2 _ _ _ hN5, Ext.trans' HX5.out hP (by simp; omega), ownsRow_keep HO5.out hP (by simpa using hsB)⟩
        · go_wp2
          go_meet
          case rel => exact ⟨by rw [if_neg hkd]; exact hN5, HX5.out, HO5.out⟩
      case rest =>
        obtain ⟨hN6, hX6, hO6⟩ := hcut
        have hB6 : B < wc.heap.size := (Array.getElem?_eq_some_iff.1 hN6).1
        obtain ⟨w', hw'⟩ : ∃ w', (if kind = 1 then 0 else x.w : Nat) = w' := ⟨_, rfl⟩
        have htk := HTK.out
        rw [hw'] at hN6 htk
        clear HTK
        have hOA : (wc.alloc (.cells #[.int .u32 s', .int .u32 d', .int .u32 w'] 51)).ownsRow (w.heap.size + 1) 51 3 u5 k (flat edC ((listE (sizeN N) kind E).take k)) := ownsRow_keep hO6 (Ext.alloc _ _) (by simp)
        have hNA : At (wc.alloc (.cells #[.int .u32 s', .int .u32 d', .int .u32 w'] 51)) wc.heap.size 0 (edC ⟨s', d', w'⟩) := At.new (edC ⟨s', d', w'⟩) 51 rfl
        have hsA : w.heap.size + 1 ≤ (wc.alloc (.cells #[.int .u32 s', .int .u32 d', .int .u32 w'] 51)).heap.size := by have := hX6.size; simp at this ⊢; omega
        have hXA := Ext.trans hX6 (Ext.alloc wc (.cells #[.int .u32 s', .int .u32 d', .int .u32 w'] 51))
        have HOA := Lib.hid hOA
        have HNA := Lib.hid hNA
        have HXA := Lib.hid hXA
        have HN6 := Lib.hid (At.whole hN6)
        have HTK := Lib.hid htk
        clear hOA hNA hXA hN6 hX6 hO6 htk hw' HX5 HO5 c2 f2
        go_wp2_with (first | (refine wpList_load_at rfl 51 _ rfl _ rfl HN6.out Try.underlying51 rfl i51 ?_) | (at_builtin; refine wpList_append_own _ rfl (.tmp 35) (.tmp 37) 22 rfl (w.heap.size + 1) 51 i0 (.agg (edC ⟨0, 0, 0⟩)) 3 12 Try.underlying22 HI.out HZ0.out HZ1.out HZ2.out rfl (by omega) u5 k (flat edC ((listE (sizeN N) kind E).take k)) rfl HOA.out ⟨wc.heap.size, 0, none⟩ 1 1 (edC ⟨s', d', w'⟩).toList rfl rfl ?c1 ?c2 ?c3 ?c4 hsA ?c6))
        case c1 =>
          intro j u hu
          rw [add_at]
          exact HNA.out.cell (by simpa using hu)
        case c2 =>
          intro u hu
          exact (Array.all_eq_true_iff_forall_mem.1 (edC_one ⟨s', d', w'⟩)) u (by simpa using hu)
        case c3 => simp only [maxLen]; omega
        case c4 => omega
        case c6 =>
          intro v' w5 hown5 hgr5 hnil
          clear hnil
          have hob : ∀ j, u5.ownBlock = some j → w.heap.size + 1 ≤ j ∧ j < (wc.alloc (.cells #[.int .u32 s', .int .u32 d', .int .u32 w'] 51)).heap.size := HOA.out.lt
          have hX5 : Ext (w.alloc (.cells #[.int .i64 N, .slice (some ad) E.length cap] 24)) w5 := Keep.grown HXA.out hgr5 (fun j hj => .inr (by have := (hob j hj).1; simpa using this))
          have hO5 : w5.ownsRow (w.heap.size + 1) 51 3 v' (k + 1) (flat edC ((listE (sizeN N) kind E).take (k + 1))) := by
            rw [HTK.out, flat_append]
            simpa [flat] using hown5
          have HX5 := Lib.hid hX5
          have HO5 := Lib.hid hO5
          clear hown5 hgr5 hob hX5 hO5 HOA HNA HXA HN6 hsA
          go_wp2
          go_roundg (gk - 1)
          case measure => omega
          case rel => exact ⟨k + 1, by omega, by go_num, HX5.out, HO5.out⟩
    · have hkE : k = E.length := by omega
      subst hkE
      have htk : (listE (sizeN N) kind E).take E.length = listE (sizeN N) kind E := List.take_of_length_le (by rw [listE_length]; omega)
      have hg0 : w.heap.size < wr.heap.size := by omega
      rw [htk] at hOwn
      obtain ⟨bo, c, hv, hEA, hbo⟩ : ∃ bo c, u5 = .slice bo E.length c ∧ EdgesAt wr bo (listE (sizeN N) kind E) ∧ ∀ ge, bo = some ⟨ge, 0, none⟩ → w.heap.size ≤ ge ∧ ge < wr.heap.size := by
        have hO := hOwn
        obtain ⟨_, h2⟩ := hO
        rcases h2 with ⟨hv, h0⟩ | ⟨g, c, cur, hv, hg, hgh, hgc⟩
        · refine ⟨none, 0, by rw [hv, h0], fun hne => absurd (List.eq_nil_of_length_eq_zero (by rw [listE_length]; exact h0)) hne, fun ge h => by cases h⟩
        · have hr : Row wr g 51 3 edC (listE (sizeN N) kind E) := Row.of_own (cap := c) edC_size (by rw [← hv]; exact hOwn) (listE_length _ _ _).symm
          refine ⟨some ⟨g, 0, none⟩, c, hv, fun _ => ⟨g, rfl, hr⟩, fun ge h => ?_⟩
          cases h
          exact ⟨by omega, hr.lt⟩
      subst hv
      have HX := Lib.hid hX
      have HEA := Lib.hid hEA
      have HBO := Lib.hid hbo
      clear hX hEA hbo hOwn htk hG
      go_wp2
      go_ret
      exact ⟨bo, c, rfl, Ext.trans (Ext.alloc _ _) HX.out, HEA.out, HBO.out⟩
end Go.Proofs.Ytalpjipopipncaa
