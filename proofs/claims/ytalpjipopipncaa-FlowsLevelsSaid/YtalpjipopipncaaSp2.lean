/- The spread's programs keep the contracts of the eight methods; the walk of BFS. Conditions: those of each theorem. -/
import Derived.Test.YtalpjipopipncaaSp1
namespace Go.Proofs.Ytalpjipopipncaa
open Go Go.RowKit
set_option maxHeartbeats 1000000 in
theorem flowR_turn {b f : Nat} {t : TypeId} {v rv : Value} {c g c1 : St} {ch r : Int} {q z : Value}  (hf : ∀ args w, (callFunc f args).run Try.prog w = .ok (.enter f args) w)
    (w : World) (hm : ∀ w1, Ext w w1 → (method 291 t v "Turn").run Try.prog w1 = .ok (f, rv) w1) (hin : ∀ w1, Ext w w1 → Calls Try.prog f #[rv, .agg (ctC c), .agg (stC g), .int .u64 ch, .int .i64 r] w1 fun e w' => e = .returned (.tuple #[.agg (ctC c1), q, z]) ∧ Ext w1 w')
    (hb : w.heap[b]? = some (.cells #[.iface t v] 83 (0, 0))) : Calls Try.prog 53 #[.pointer (some ⟨b, 0, none⟩), .agg (ctC c), .agg (stC g), .int .u64 ch, .int .i64 r] w fun e w' => e = .returned (.tuple #[.agg (ctC c1), q, z]) ∧ Ext w w' := by
  have hc : w.cell? ⟨b, 0, none⟩ = some (.iface t v) := cell_of_row w b 0 _ _ _ hb
  have hl0 : b < w.heap.size := (Array.getElem?_eq_some_iff.1 hb).1
  have HB := Lib.hid hb
  have HI := Lib.hid hin
  have HM := Lib.hid hm
  clear hb hin hm
  go_enter Try.func53, Try.ntmps53
  go_wp2_with (go_at_call 37; refine (flow_none t _ (Ext.heap ((((Keep.refl [] w).alloc _).alloc _).alloc _) HB.out)).mono ?_; rintro e w' ⟨rfl, rfl⟩)
  have hl1 : b < w.heap.size + 1 := by omega
  have hl2 : b < w.heap.size + 1 + 1 := by omega
  have hl3 : b < w.heap.size + 1 + 1 + 1 := by omega
  refine wp_region_row 12 0 (by kernel_rfl) (by kernel_rfl) ?_
  simp only [List.take, List.drop]
  iterate 4 (refine wpHead_step (fun K hK => ?_); go_simp; (refine hK _ ?_; clear hK K))
  refine wpHead_load_at rfl 37 _ rfl _ rfl (At.drew (At.alloc (At.alloc (At.new _ _ rfl) _) _)) Try.underlying37 rfl i37 ?_
  refine wpHead_load_at rfl 35 _ rfl _ rfl (At.drew (At.alloc (At.new _ _ (by simp)) _)) Try.underlying35 rfl i35 ?_
  iterate 2 (refine wpHead_step (fun K hK => ?_); go_simp; (refine hK _ ?_; clear hK K))
  refine wpHead_step (fun K hK => ?_)
  have hM := fun x : Nx ((((w.alloc (.cells (ctC c) 37)).alloc (.cells (stC g) 35)).alloc (.cells #[.int .u64 0, .int .u64 0, .int .u64 0, .int .u64 0] 37)).drew) => HM.out _ (Ext.trans ((((Keep.refl [] w).alloc _).alloc _).alloc _).drew (nx_ext _ x))
  go_simp
  clear hM
  (apply Exists.intro; refine ⟨fun W1 => ?_, hK _ ?_⟩)
  · exact HI.out _ (Ext.trans (((((Keep.refl [] w).alloc _).alloc _).alloc _)).drew (nx_ext _ W1))
  clear hK K
  iterate 3 (refine wpHead_step (fun K hK => ?_); go_simp; (refine hK _ ?_; clear hK K))
  refine wpHead_nil (wpPure_nil ?_)
  intro w2 hw2
  have hz : At w2 (w.heap.size + 1 + 1) 0 #[.int .u64 0, .int .u64 0, .int .u64 0, .int .u64 0] := At.ext (At.drew (At.new _ 37 (by simp))) hw2
  refine wpList_store_at rfl 37 _ _ rfl rfl rfl hz i37 rfl (ctC_one c1) ?_
  go_wp2
  refine nOnly_mk ?_
  go_wp2
  refine bodyPost_ret (results_at3 rfl _ _ rfl (hz.put rfl) Try.underlying37 rfl i37) rfl ⟨rfl, ?_⟩
  exact (Keep.transE (((((Keep.refl [] w).alloc _).alloc _).alloc _)).drew hw2).trans (keep_wput _ _ _ _) (fun k hk hlt => by simp at hk; omega)

section
variable {q sp : Nat}
theorem byteOf_spread (s0 : Value) (w : World) (hs : w.heap[sp]? = some (.cells #[s0] 131 (0, 0))) : (byteOf ⟨sp, 0, none⟩).run Try.prog w = .ok 0 w := by
  have hc : Try.prog.cellsOf 131 = 1 := by kernel_rfl
  have hby : byteOfCell Try.prog Try.prog.depth 131 0 = some 0 := by kernel_rfl
  simp [byteOf, noView, viewAt, World.shape?, go_sem, hs, hc, hby]
theorem m_bfs_apply (w : World) (h : w.cell? ⟨q, 0, none⟩ = some (.pointer (some ⟨sp, 0, none⟩))) : (method 291 98 (.pointer (some ⟨q, 0, none⟩)) "Apply").run Try.prog w = .ok (127, .pointer (some ⟨sp, 0, none⟩)) w := by
  have hf : Array.find? (fun x : Method => x.name == "Apply") Try.t98.methods = some { name := "Apply", sig := 122, path := #[{ struct := 100, index := 0, deref := true }], func := some (127, true) } := by kernel_rfl
  unfold method
  simp [go_sem, h, hf, follow, receiverAt, Place.get, fieldPlace, asAddr]
theorem m_bfs_both (w : World) (h : w.cell? ⟨q, 0, none⟩ = some (.pointer (some ⟨sp, 0, none⟩))) : (method 291 98 (.pointer (some ⟨q, 0, none⟩)) "Both").run Try.prog w = .ok (128, .pointer (some ⟨sp, 0, none⟩)) w := by
  have hf : Array.find? (fun x : Method => x.name == "Both") Try.t98.methods = some { name := "Both", sig := 45, path := #[{ struct := 100, index := 0, deref := true }], func := some (128, true) } := by kernel_rfl
  unfold method
  simp [go_sem, h, hf, follow, receiverAt, Place.get, fieldPlace, asAddr]
theorem m_bfs_fold (w : World) (h : w.cell? ⟨q, 0, none⟩ = some (.pointer (some ⟨sp, 0, none⟩))) : (method 291 98 (.pointer (some ⟨q, 0, none⟩)) "Fold").run Try.prog w = .ok (129, .pointer (some ⟨sp, 0, none⟩)) w := by
  have hf : Array.find? (fun x : Method => x.name == "Fold") Try.t98.methods = some { name := "Fold", sig := 134, path := #[{ struct := 100, index := 0, deref := true }], func := some (129, true) } := by kernel_rfl
  unfold method
  simp [go_sem, h, hf, follow, receiverAt, Place.get, fieldPlace, asAddr]
theorem m_bfs_sink (w : World) (h : w.cell? ⟨q, 0, none⟩ = some (.pointer (some ⟨sp, 0, none⟩))) : (method 291 98 (.pointer (some ⟨q, 0, none⟩)) "Sink").run Try.prog w = .ok (130, .pointer (some ⟨sp, 0, none⟩)) w := by
  have hf : Array.find? (fun x : Method => x.name == "Sink") Try.t98.methods = some { name := "Sink", sig := 109, path := #[{ struct := 100, index := 0, deref := true }], func := some (130, true) } := by kernel_rfl
  unfold method
  simp [go_sem, h, hf, follow, receiverAt, Place.get, fieldPlace, asAddr]
theorem m_bfs_start (w : World) (h : w.cell? ⟨q, 0, none⟩ = some (.pointer (some ⟨sp, 0, none⟩))) : (method 291 98 (.pointer (some ⟨q, 0, none⟩)) "Start").run Try.prog w = .ok (131, .pointer (some ⟨sp, 0, none⟩)) w := by
  have hf : Array.find? (fun x : Method => x.name == "Start") Try.t98.methods = some { name := "Start", sig := 113, path := #[{ struct := 100, index := 0, deref := true }], func := some (131, true) } := by kernel_rfl
  unfold method
  simp [go_sem, h, hf, follow, receiverAt, Place.get, fieldPlace, asAddr]
theorem m_bfs_words (w : World) (h : w.cell? ⟨q, 0, none⟩ = some (.pointer (some ⟨sp, 0, none⟩))) : (method 291 98 (.pointer (some ⟨q, 0, none⟩)) "Words").run Try.prog w = .ok (132, .pointer (some ⟨sp, 0, none⟩)) w := by
  have hf : Array.find? (fun x : Method => x.name == "Words") Try.t98.methods = some { name := "Words", sig := 105, path := #[{ struct := 100, index := 0, deref := true }], func := some (132, true) } := by kernel_rfl
  unfold method
  simp [go_sem, h, hf, follow, receiverAt, Place.get, fieldPlace, asAddr]
theorem m_bfs_scatter (w : World) : (method 291 98 (.pointer (some ⟨q, 0, none⟩)) "Scatter").run Try.prog w = .ok (135, .pointer (some ⟨q, 0, none⟩)) w := by kernel_rfl
theorem m_bfs_turn (s0 : Value) (w : World) (h : w.cell? ⟨q, 0, none⟩ = some (.pointer (some ⟨sp, 0, none⟩))) (hs : w.heap[sp]? = some (.cells #[s0] 131 (0, 0))) : (method 291 98 (.pointer (some ⟨q, 0, none⟩)) "Turn").run Try.prog w = .ok (108, .agg #[]) w := by
  have hf : Array.find? (fun x : Method => x.name == "Turn") Try.t98.methods = some { name := "Turn", sig := 124, path := #[{ struct := 100, index := 0, deref := true }, { struct := 131, index := 0, deref := true }], func := some (108, false) } := by kernel_rfl
  have hbo := byteOf_spread s0 w hs
  unfold method
  simp [go_sem, h, hf, follow, receiverAt, Place.get, fieldPlace, asAddr, partAt, hbo]
theorem m_rch_apply (w : World) (h : w.cell? ⟨q, 0, none⟩ = some (.pointer (some ⟨sp, 0, none⟩))) : (method 291 103 (.pointer (some ⟨q, 0, none⟩)) "Apply").run Try.prog w = .ok (127, .pointer (some ⟨sp, 0, none⟩)) w := by
  have hf : Array.find? (fun x : Method => x.name == "Apply") Try.t103.methods = some { name := "Apply", sig := 122, path := #[{ struct := 104, index := 0, deref := true }], func := some (127, true) } := by kernel_rfl
  unfold method
  simp [go_sem, h, hf, follow, receiverAt, Place.get, fieldPlace, asAddr]
theorem m_rch_both (w : World) (h : w.cell? ⟨q, 0, none⟩ = some (.pointer (some ⟨sp, 0, none⟩))) : (method 291 103 (.pointer (some ⟨q, 0, none⟩)) "Both").run Try.prog w = .ok (128, .pointer (some ⟨sp, 0, none⟩)) w := by
  have hf : Array.find? (fun x : Method => x.name == "Both") Try.t103.methods = some { name := "Both", sig := 45, path := #[{ struct := 104, index := 0, deref := true }], func := some (128, true) } := by kernel_rfl
  unfold method
  simp [go_sem, h, hf, follow, receiverAt, Place.get, fieldPlace, asAddr]
theorem m_rch_fold (w : World) (h : w.cell? ⟨q, 0, none⟩ = some (.pointer (some ⟨sp, 0, none⟩))) : (method 291 103 (.pointer (some ⟨q, 0, none⟩)) "Fold").run Try.prog w = .ok (129, .pointer (some ⟨sp, 0, none⟩)) w := by
  have hf : Array.find? (fun x : Method => x.name == "Fold") Try.t103.methods = some { name := "Fold", sig := 134, path := #[{ struct := 104, index := 0, deref := true }], func := some (129, true) } := by kernel_rfl
  unfold method
  simp [go_sem, h, hf, follow, receiverAt, Place.get, fieldPlace, asAddr]
theorem m_rch_sink (w : World) (h : w.cell? ⟨q, 0, none⟩ = some (.pointer (some ⟨sp, 0, none⟩))) : (method 291 103 (.pointer (some ⟨q, 0, none⟩)) "Sink").run Try.prog w = .ok (130, .pointer (some ⟨sp, 0, none⟩)) w := by
  have hf : Array.find? (fun x : Method => x.name == "Sink") Try.t103.methods = some { name := "Sink", sig := 109, path := #[{ struct := 104, index := 0, deref := true }], func := some (130, true) } := by kernel_rfl
  unfold method
  simp [go_sem, h, hf, follow, receiverAt, Place.get, fieldPlace, asAddr]
theorem m_rch_start (w : World) (h : w.cell? ⟨q, 0, none⟩ = some (.pointer (some ⟨sp, 0, none⟩))) : (method 291 103 (.pointer (some ⟨q, 0, none⟩)) "Start").run Try.prog w = .ok (131, .pointer (some ⟨sp, 0, none⟩)) w := by
  have hf : Array.find? (fun x : Method => x.name == "Start") Try.t103.methods = some { name := "Start", sig := 113, path := #[{ struct := 104, index := 0, deref := true }], func := some (131, true) } := by kernel_rfl
  unfold method
  simp [go_sem, h, hf, follow, receiverAt, Place.get, fieldPlace, asAddr]
theorem m_rch_words (w : World) (h : w.cell? ⟨q, 0, none⟩ = some (.pointer (some ⟨sp, 0, none⟩))) : (method 291 103 (.pointer (some ⟨q, 0, none⟩)) "Words").run Try.prog w = .ok (132, .pointer (some ⟨sp, 0, none⟩)) w := by
  have hf : Array.find? (fun x : Method => x.name == "Words") Try.t103.methods = some { name := "Words", sig := 105, path := #[{ struct := 104, index := 0, deref := true }], func := some (132, true) } := by kernel_rfl
  unfold method
  simp [go_sem, h, hf, follow, receiverAt, Place.get, fieldPlace, asAddr]
theorem m_rch_scatter (w : World) : (method 291 103 (.pointer (some ⟨q, 0, none⟩)) "Scatter").run Try.prog w = .ok (136, .pointer (some ⟨q, 0, none⟩)) w := by kernel_rfl
theorem m_rch_turn (s0 : Value) (w : World) (h : w.cell? ⟨q, 0, none⟩ = some (.pointer (some ⟨sp, 0, none⟩))) (hs : w.heap[sp]? = some (.cells #[s0] 131 (0, 0))) : (method 291 103 (.pointer (some ⟨q, 0, none⟩)) "Turn").run Try.prog w = .ok (108, .agg #[]) w := by
  have hf : Array.find? (fun x : Method => x.name == "Turn") Try.t103.methods = some { name := "Turn", sig := 124, path := #[{ struct := 104, index := 0, deref := true }, { struct := 131, index := 0, deref := true }], func := some (108, false) } := by kernel_rfl
  have hbo := byteOf_spread s0 w hs
  unfold method
  simp [go_sem, h, hf, follow, receiverAt, Place.get, fieldPlace, asAddr, partAt, hbo]
end
theorem flowAt_bfs {srcs L : List Nat} {n sp gs cp q b N : Nat} {W : World} (hmem : ∀ v, v ∈ L ↔ v ∈ srcs) (hL : L.length = n) (hn : n ≤ 1000000) (hA : Asc L) (hs : W.heap[sp]? = some (.cells #[.slice (some ⟨gs, 0, none⟩) n cp] 131 (0, 0))) (hR : Row W gs 25 1 u32C L)
    (hq : W.heap[q]? = some (.cells #[.pointer (some ⟨sp, 0, none⟩)] 100 (0, 0))) (hb : W.heap[b]? = some (.cells #[.iface 98 (.pointer (some ⟨q, 0, none⟩))] 83 (0, 0))) (hspN : sp < N) (hgN : gs < N) (hqN : q < N) (hN : b < N) :
    FlowAt (.pointer (some ⟨b, 0, none⟩)) (spreadP srcs false) N W := by
  have key : ∀ w, Below N W w → w.heap[b]? = some (.cells #[.iface 98 (.pointer (some ⟨q, 0, none⟩))] 83 (0, 0)) := fun w hw => by rw [hw.block b hN]; exact hb
  have keyq : ∀ w, Below N W w → w.heap[q]? = some (.cells #[.pointer (some ⟨sp, 0, none⟩)] 100 (0, 0)) := fun w hw => by rw [hw.block q hqN]; exact hq
  have keys : ∀ w w1, Below N W w → Ext w w1 → w1.heap[sp]? = some (.cells #[.slice (some ⟨gs, 0, none⟩) n cp] 131 (0, 0)) := fun w w1 hw he => he.heap (by rw [hw.block sp hspN]; exact hs)
  have keyr : ∀ w w1, Below N W w → Ext w w1 → Row w1 gs 25 1 u32C L := fun w w1 hw he => (hR.below hw hgN).ext he
  refine ⟨fun w hw => ?_, fun w hw => ?_, fun w hw => ?_, fun w hw v x y h0 h1 => ?_, fun w hw c s x back _ h0 h1 => ?_, fun w hw c g s v hct h0 h1 => ?_, fun w hw c g s v _ h0 h1 => ?_, fun w hw c g ch r _ => ?_⟩
  · exact flowQ_words m_bfs_words (fun _ _ => by kernel_rfl) w (fun w1 _ => spread_words _ w1) (keyq w hw) (key w hw)
  · exact flowQ_both m_bfs_both (fun _ _ => by kernel_rfl) w (fun w1 _ => spread_both _ w1) (keyq w hw) (key w hw)
  · exact flowQ_sink rfl (by simp [Value.oneCell']) m_bfs_sink (fun _ _ => by kernel_rfl) w (fun w1 _ => spread_sink _ w1) (keyq w hw) (key w hw)
  · obtain ⟨v, rfl⟩ : ∃ k : Nat, v = k := ⟨v.toNat, by omega⟩
    exact flowQ_start m_bfs_start (fun _ _ => by kernel_rfl) w v x y (fun w1 he => spread_start L hmem hL hn hA v (by omega) x y w1 (keys w w1 hw he) (keyr w w1 hw he)) (keyq w hw) (key w hw)
  · exact flowQ_scatter (z0 := .pointer (some ⟨sp, 0, none⟩)) (fun w _ => m_bfs_scatter w) (fun _ _ => by kernel_rfl) w (fun w1 he => bfs_scatter (srcs := srcs) _ c s x back h0 w1) (keyq w hw) (key w hw)
  · exact flowQ_apply m_bfs_apply (fun _ _ => by kernel_rfl) w (fun w1 he => spread_apply _ c g s v w1) (keyq w hw) (key w hw)
  · exact flowQ_fold m_bfs_fold (fun _ _ => by kernel_rfl) w (fun w1 _ => spread_fold _ c g s v w1) (keyq w hw) (key w hw)
  · exact flowR_turn (fun _ _ => by kernel_rfl) w (fun w1 he => m_bfs_turn _ w1 (cell_of_row w1 q 0 _ _ _ (he.heap (keyq w hw))) (keys w w1 hw he)) (fun w1 he => level_turn c g ch r w1) (key w hw)
theorem flowAt_rch {srcs L : List Nat} {n sp gs cp q b N : Nat} {W : World} (hmem : ∀ v, v ∈ L ↔ v ∈ srcs) (hL : L.length = n) (hn : n ≤ 1000000) (hA : Asc L) (hs : W.heap[sp]? = some (.cells #[.slice (some ⟨gs, 0, none⟩) n cp] 131 (0, 0))) (hR : Row W gs 25 1 u32C L)
    (hq : W.heap[q]? = some (.cells #[.pointer (some ⟨sp, 0, none⟩)] 104 (0, 0))) (hb : W.heap[b]? = some (.cells #[.iface 103 (.pointer (some ⟨q, 0, none⟩))] 83 (0, 0))) (hspN : sp < N) (hgN : gs < N) (hqN : q < N) (hN : b < N) :
    FlowAt (.pointer (some ⟨b, 0, none⟩)) (spreadP srcs true) N W := by
  have key : ∀ w, Below N W w → w.heap[b]? = some (.cells #[.iface 103 (.pointer (some ⟨q, 0, none⟩))] 83 (0, 0)) := fun w hw => by rw [hw.block b hN]; exact hb
  have keyq : ∀ w, Below N W w → w.heap[q]? = some (.cells #[.pointer (some ⟨sp, 0, none⟩)] 104 (0, 0)) := fun w hw => by rw [hw.block q hqN]; exact hq
  have keys : ∀ w w1, Below N W w → Ext w w1 → w1.heap[sp]? = some (.cells #[.slice (some ⟨gs, 0, none⟩) n cp] 131 (0, 0)) := fun w w1 hw he => he.heap (by rw [hw.block sp hspN]; exact hs)
  have keyr : ∀ w w1, Below N W w → Ext w w1 → Row w1 gs 25 1 u32C L := fun w w1 hw he => (hR.below hw hgN).ext he
  refine ⟨fun w hw => ?_, fun w hw => ?_, fun w hw => ?_, fun w hw v x y h0 h1 => ?_, fun w hw c s x back _ h0 h1 => ?_, fun w hw c g s v hct h0 h1 => ?_, fun w hw c g s v _ h0 h1 => ?_, fun w hw c g ch r _ => ?_⟩
  · exact flowQ_words m_rch_words (fun _ _ => by kernel_rfl) w (fun w1 _ => spread_words _ w1) (keyq w hw) (key w hw)
  · exact flowQ_both m_rch_both (fun _ _ => by kernel_rfl) w (fun w1 _ => spread_both _ w1) (keyq w hw) (key w hw)
  · exact flowQ_sink rfl (by simp [Value.oneCell']) m_rch_sink (fun _ _ => by kernel_rfl) w (fun w1 _ => spread_sink _ w1) (keyq w hw) (key w hw)
  · obtain ⟨v, rfl⟩ : ∃ k : Nat, v = k := ⟨v.toNat, by omega⟩
    exact flowQ_start m_rch_start (fun _ _ => by kernel_rfl) w v x y (fun w1 he => spread_start L hmem hL hn hA v (by omega) x y w1 (keys w w1 hw he) (keyr w w1 hw he)) (keyq w hw) (key w hw)
  · exact flowQ_scatter (z0 := .pointer (some ⟨sp, 0, none⟩)) (fun w _ => m_rch_scatter w) (fun _ _ => by kernel_rfl) w (fun w1 he => reach_scatter (srcs := srcs) _ c s x back w1) (keyq w hw) (key w hw)
  · exact flowQ_apply m_rch_apply (fun _ _ => by kernel_rfl) w (fun w1 he => spread_apply _ c g s v w1) (keyq w hw) (key w hw)
  · exact flowQ_fold m_rch_fold (fun _ _ => by kernel_rfl) w (fun w1 _ => spread_fold _ c g s v w1) (keyq w hw) (key w hw)
  · exact flowR_turn (fun _ _ => by kernel_rfl) w (fun w1 he => m_rch_turn _ w1 (cell_of_row w1 q 0 _ _ _ (he.heap (keyq w hw))) (keys w w1 hw he)) (fun w1 he => level_turn c g ch r w1) (key w hw)
theorem sinkOK_spread (srcs : List Nat) (rch : Bool) : SinkOK (spreadP srcs rch) := ⟨fun s y w => mon_1_2 s y w, fun s y w => mon_0_0 s y w⟩
end Go.Proofs.Ytalpjipopipncaa
