/- The walks of the eight methods of Flow over a program whose methods are promoted through a pointer. Conditions: those of each theorem. -/
import Derived.Test.YtalpjipopipncaaBin
namespace Go.Proofs.Ytalpjipopipncaa
open Go Go.RowKit

set_option maxHeartbeats 400000 in
theorem flowQ_words {q0 : Nat} {z0 : Value} {tq : TypeId} {b f : Nat} {t : TypeId} {v rv r : Value} (hm : ∀ w, w.cell? ⟨q0, 0, none⟩ = some z0 → (method 291 t v "Words").run Try.prog w = .ok (f, rv) w) (hf : ∀ args w, (callFunc f args).run Try.prog w = .ok (.enter f args) w)
    (w : World) (hin : ∀ w1, Ext w w1 → Calls Try.prog f #[rv] w1 fun e w' => e = .returned r ∧ Ext w1 w')
    (hqb : w.heap[q0]? = some (.cells #[z0] tq (0, 0))) (hb : w.heap[b]? = some (.cells #[.iface t v] 83 (0, 0))) : Calls Try.prog 44 #[.pointer (some ⟨b, 0, none⟩)] w fun e w' => e = .returned r ∧ Ext w w' := by
  have hc : w.cell? ⟨b, 0, none⟩ = some (.iface t v) := cell_of_row w b 0 _ _ _ hb
  have hqc : w.cell? ⟨q0, 0, none⟩ = some z0 := cell_of_row w q0 0 _ _ _ hqb
  have hql0 := (Array.getElem?_eq_some_iff.1 hqb).1
  have hql1 : q0 < w.heap.size + 1 := by omega
  have hql2 : q0 < w.heap.size + 1 + 1 := by omega
  have hql3 : q0 < w.heap.size + 1 + 1 + 1 := by omega
  have hql4 : q0 < w.heap.size + 1 + 1 + 1 + 1 := by omega
  clear hqb
  have HB := Lib.hid hb
  have HI := Lib.hid hin
  clear hb hin
  go_enter Try.func44, Try.ntmps44
  go_wp2_with (first | (go_at_call 37; refine (flow_none t w HB.out).mono ?_; rintro e w' ⟨rfl, rfl⟩) | (with_reducible refine (HI.out _ (Ext.refl _)).mono ?_; rintro e w1 ⟨rfl, hw1⟩))
  go_ret
  exact ⟨rfl, hw1⟩

set_option maxHeartbeats 400000 in
theorem flowQ_both {q0 : Nat} {z0 : Value} {tq : TypeId} {b f : Nat} {t : TypeId} {v rv : Value} {r : Bool} (hm : ∀ w, w.cell? ⟨q0, 0, none⟩ = some z0 → (method 291 t v "Both").run Try.prog w = .ok (f, rv) w) (hf : ∀ args w, (callFunc f args).run Try.prog w = .ok (.enter f args) w)
    (w : World) (hin : ∀ w1, Ext w w1 → Calls Try.prog f #[rv] w1 fun e w' => e = .returned (.bool r) ∧ Ext w1 w')
    (hqb : w.heap[q0]? = some (.cells #[z0] tq (0, 0))) (hb : w.heap[b]? = some (.cells #[.iface t v] 83 (0, 0))) : Calls Try.prog 16 #[.pointer (some ⟨b, 0, none⟩)] w fun e w' => e = .returned (.bool r) ∧ Ext w w' := by
  have hc : w.cell? ⟨b, 0, none⟩ = some (.iface t v) := cell_of_row w b 0 _ _ _ hb
  have hqc : w.cell? ⟨q0, 0, none⟩ = some z0 := cell_of_row w q0 0 _ _ _ hqb
  have hql0 := (Array.getElem?_eq_some_iff.1 hqb).1
  have hql1 : q0 < w.heap.size + 1 := by omega
  have hql2 : q0 < w.heap.size + 1 + 1 := by omega
  have hql3 : q0 < w.heap.size + 1 + 1 + 1 := by omega
  have hql4 : q0 < w.heap.size + 1 + 1 + 1 + 1 := by omega
  clear hqb
  have HB := Lib.hid hb
  have HI := Lib.hid hin
  clear hb hin
  go_enter Try.func16, Try.ntmps16
  go_wp2_with (first | (go_at_call 37; refine (flow_none t w HB.out).mono ?_; rintro e w' ⟨rfl, rfl⟩) | (with_reducible refine (HI.out _ (Ext.refl _)).mono ?_; rintro e w1 ⟨rfl, hw1⟩))
  go_ret
  exact ⟨rfl, hw1⟩

set_option maxHeartbeats 400000 in
theorem flowQ_sink {q0 : Nat} {z0 : Value} {tq : TypeId} {b f : Nat} {t : TypeId} {v rv : Value} {cs : Array Value} (h4 : cs.size = 4) (h1 : cs.all (·.oneCell') = true) (hm : ∀ w, w.cell? ⟨q0, 0, none⟩ = some z0 → (method 291 t v "Sink").run Try.prog w = .ok (f, rv) w) (hf : ∀ args w, (callFunc f args).run Try.prog w = .ok (.enter f args) w)
    (w : World) (hin : ∀ w1, Ext w w1 → Calls Try.prog f #[rv] w1 fun e w' => e = .returned (.agg cs) ∧ Ext w1 w')
    (hqb : w.heap[q0]? = some (.cells #[z0] tq (0, 0))) (hb : w.heap[b]? = some (.cells #[.iface t v] 83 (0, 0))) : Calls Try.prog 45 #[.pointer (some ⟨b, 0, none⟩)] w fun e w' => e = .returned (.agg cs) ∧ Ext w w' := by
  have hc : w.cell? ⟨b, 0, none⟩ = some (.iface t v) := cell_of_row w b 0 _ _ _ hb
  have hqc : w.cell? ⟨q0, 0, none⟩ = some z0 := cell_of_row w q0 0 _ _ _ hqb
  have hql0 := (Array.getElem?_eq_some_iff.1 hqb).1
  have hql1 : q0 < w.heap.size + 1 := by omega
  have hql2 : q0 < w.heap.size + 1 + 1 := by omega
  have hql3 : q0 < w.heap.size + 1 + 1 + 1 := by omega
  have hql4 : q0 < w.heap.size + 1 + 1 + 1 + 1 := by omega
  clear hqb
  have hl0 : b < w.heap.size := (Array.getElem?_eq_some_iff.1 hb).1
  have H4 := Lib.hid h4
  have H1 := Lib.hid h1
  have HB := Lib.hid hb
  have HI := Lib.hid hin
  clear hb hin h1 h4
  go_enter Try.func45, Try.ntmps45
  go_wp2_with (first | (go_at_call 37; refine (flow_none t _ (Ext.heap ((Keep.refl [] w).alloc _) HB.out)).mono ?_; rintro e w' ⟨rfl, rfl⟩) | (with_reducible refine (HI.out _ (Ext.alloc w _)).mono ?_; rintro e w1 ⟨rfl, hw1⟩) | (refine wpList_store_at rfl 108 _ _ rfl rfl rfl (At.ext (At.new _ _ rfl) hw1) (by rw [H4.out]; exact i108) H4.out H1.out ?_))
  have hA : At (wput w1 w.heap.size 0 cs) w.heap.size 0 cs := At.put (At.ext (At.new _ _ rfl) hw1) H4.out
  refine bodyPost_ret (results_at1 rfl _ _ rfl hA Try.underlying108 rfl (by rw [H4.out]; exact i108)) rfl ⟨rfl, ?_⟩
  exact (((Keep.refl [] w).alloc _).transE hw1).trans (keep_wput _ _ _ _) (fun k hk hlt => by simp at hk; omega)

set_option maxHeartbeats 1000000 in
theorem flowQ_start {q0 : Nat} {z0 : Value} {tq : TypeId} {b f : Nat} {t : TypeId} {v rv : Value} {s : St} (hm : ∀ w, w.cell? ⟨q0, 0, none⟩ = some z0 → (method 291 t v "Start").run Try.prog w = .ok (f, rv) w) (hf : ∀ args w, (callFunc f args).run Try.prog w = .ok (.enter f args) w)
    (w : World) (u x y : Int) (hin : ∀ w1, Ext w w1 → Calls Try.prog f #[rv, .int .u32 u, .agg #[.int .u64 x, .int .u64 y]] w1 fun e w' => e = .returned (.tuple #[.agg (stC s), .int .i64 0]) ∧ Ext w1 w')
    (hqb : w.heap[q0]? = some (.cells #[z0] tq (0, 0))) (hb : w.heap[b]? = some (.cells #[.iface t v] 83 (0, 0))) : Calls Try.prog 47 #[.pointer (some ⟨b, 0, none⟩), .int .u32 u, .agg #[.int .u64 x, .int .u64 y]] w fun e w' => e = .returned (.tuple #[.agg (stC s), .int .i64 0]) ∧ Ext w w' := by
  have hc : w.cell? ⟨b, 0, none⟩ = some (.iface t v) := cell_of_row w b 0 _ _ _ hb
  have hqc : w.cell? ⟨q0, 0, none⟩ = some z0 := cell_of_row w q0 0 _ _ _ hqb
  have hql0 := (Array.getElem?_eq_some_iff.1 hqb).1
  have hql1 : q0 < w.heap.size + 1 := by omega
  have hql2 : q0 < w.heap.size + 1 + 1 := by omega
  have hql3 : q0 < w.heap.size + 1 + 1 + 1 := by omega
  have hql4 : q0 < w.heap.size + 1 + 1 + 1 + 1 := by omega
  clear hqb
  have hl0 : b < w.heap.size := (Array.getElem?_eq_some_iff.1 hb).1
  have HB := Lib.hid hb
  have HI := Lib.hid hin
  clear hb hin
  go_enter Try.func47, Try.ntmps47
  go_wp2_with (go_at_call 37; refine (flow_none t _ (Ext.heap (((Keep.refl [] w).alloc _).alloc _) HB.out)).mono ?_; rintro e w' ⟨rfl, rfl⟩)
  have hl1 : b < w.heap.size + 1 := by omega
  have hl2 : b < w.heap.size + 1 + 1 := by omega
  refine wp_region_row 9 0 (by kernel_rfl) (by kernel_rfl) ?_
  simp only [List.take, List.drop]
  iterate 6 (refine wpHead_step (fun K hK => ?_); go_simp; (refine hK _ ?_; clear hK K))
  refine wpHead_step (fun K hK => ?_); go_simp
  (apply Exists.intro; refine ⟨fun W1 => ?_, hK _ ?_⟩)
  · exact HI.out _ (Ext.trans ((((Keep.refl [] w).alloc _).alloc _)).drew (nx_ext _ W1))
  clear hK K
  iterate 2 (refine wpHead_step (fun K hK => ?_); go_simp; (refine hK _ ?_; clear hK K))
  refine wpHead_nil (wpPure_nil ?_)
  intro w2 hw2
  have hz : At w2 (w.heap.size + 1) 0 #[.int .u64 0, .int .u64 0, .int .u64 0, .int .u64 0, .int .u64 0, .int .u64 0, .int .u64 0, .int .u64 0] := At.ext (At.drew (At.new _ 35 (by simp))) hw2
  refine wpList_store_at rfl 35 _ _ rfl rfl rfl hz i35 rfl (stC_one s) ?_
  go_wp2
  refine nOnly_mk ?_
  go_wp2
  refine bodyPost_ret (results_at2 rfl _ _ rfl (hz.put rfl) Try.underlying35 rfl i35) rfl ⟨rfl, ?_⟩
  exact (Keep.transE ((((Keep.refl [] w).alloc _).alloc _)).drew hw2).trans (keep_wput _ _ _ _) (fun k hk hlt => by simp at hk; omega)

set_option maxHeartbeats 1000000 in
theorem flowQ_scatter {q0 : Nat} {z0 : Value} {tq : TypeId} {b f : Nat} {t : TypeId} {v rv : Value} {c s : St} {x : Edg} {back : Bool} {p q r z : Value} (hm : ∀ w, w.cell? ⟨q0, 0, none⟩ = some z0 → (method 291 t v "Scatter").run Try.prog w = .ok (f, rv) w) (hf : ∀ args w, (callFunc f args).run Try.prog w = .ok (.enter f args) w)
    (w : World)  (hin : ∀ w1, Ext w w1 → Calls Try.prog f #[rv, .agg (ctC c), .agg (stC s), .agg (edC x), .bool back] w1 fun e w' => e = .returned (.tuple #[p, q, r, z]) ∧ Ext w1 w')
    (hqb : w.heap[q0]? = some (.cells #[z0] tq (0, 0))) (hb : w.heap[b]? = some (.cells #[.iface t v] 83 (0, 0))) : Calls Try.prog 50 #[.pointer (some ⟨b, 0, none⟩), .agg (ctC c), .agg (stC s), .agg (edC x), .bool back] w fun e w' => e = .returned (.tuple #[p, q, r, z]) ∧ Ext w w' := by
  have hc : w.cell? ⟨b, 0, none⟩ = some (.iface t v) := cell_of_row w b 0 _ _ _ hb
  have hqc : w.cell? ⟨q0, 0, none⟩ = some z0 := cell_of_row w q0 0 _ _ _ hqb
  have hql0 := (Array.getElem?_eq_some_iff.1 hqb).1
  have hql1 : q0 < w.heap.size + 1 := by omega
  have hql2 : q0 < w.heap.size + 1 + 1 := by omega
  have hql3 : q0 < w.heap.size + 1 + 1 + 1 := by omega
  have hql4 : q0 < w.heap.size + 1 + 1 + 1 + 1 := by omega
  clear hqb
  have hl0 : b < w.heap.size := (Array.getElem?_eq_some_iff.1 hb).1
  have HB := Lib.hid hb
  have HI := Lib.hid hin
  clear hb hin
  go_enter Try.func50, Try.ntmps50
  go_wp2_with (go_at_call 37; refine (flow_none t _ (Ext.heap ((((Keep.refl [] w).alloc _).alloc _).alloc _) HB.out)).mono ?_; rintro e w' ⟨rfl, rfl⟩)
  have hl1 : b < w.heap.size + 1 := by omega
  have hl2 : b < w.heap.size + 1 + 1 := by omega
  have hl3 : b < w.heap.size + 1 + 1 + 1 := by omega
  refine wp_region_row 17 0 (by kernel_rfl) (by kernel_rfl) ?_
  simp only [List.take, List.drop]
  iterate 4 (refine wpHead_step (fun K hK => ?_); go_simp; (refine hK _ ?_; clear hK K))
  refine wpHead_load_at rfl 37 _ rfl _ rfl (At.drew (At.alloc (At.alloc (At.new _ _ rfl) _) _)) Try.underlying37 rfl i37 ?_
  refine wpHead_load_at rfl 35 _ rfl _ rfl (At.drew (At.alloc (At.new _ _ (by simp)) _)) Try.underlying35 rfl i35 ?_
  refine wpHead_load_at rfl 51 _ rfl _ rfl (At.drew (At.new _ _ (by simp))) Try.underlying51 rfl i51 ?_
  iterate 1 (refine wpHead_step (fun K hK => ?_); go_simp; (refine hK _ ?_; clear hK K))
  refine wpHead_step (fun K hK => ?_); go_simp
  (apply Exists.intro; refine ⟨fun W1 => ?_, hK _ ?_⟩)
  · exact HI.out _ (Ext.trans (((((Keep.refl [] w).alloc _).alloc _).alloc _)).drew (nx_ext _ W1))
  clear hK K
  iterate 8 (refine wpHead_step (fun K hK => ?_); go_simp; (refine hK _ ?_; clear hK K))
  refine wpHead_nil (wpPure_nil ?_)
  intro w2 hw2
  refine wpList_nil ?_
  refine nOnly_mk ?_
  go_wp2
  refine bodyPost_ret (results_tmp4 rfl _ _ _) rfl ⟨rfl, ?_⟩
  exact Keep.transE (((((Keep.refl [] w).alloc _).alloc _).alloc _)).drew hw2

set_option maxHeartbeats 1000000 in
theorem flowQ_apply {q0 : Nat} {z0 : Value} {tq : TypeId} {b f : Nat} {t : TypeId} {v rv : Value} {c g s s1 : St} {u : Int} {q z : Value} (hm : ∀ w, w.cell? ⟨q0, 0, none⟩ = some z0 → (method 291 t v "Apply").run Try.prog w = .ok (f, rv) w) (hf : ∀ args w, (callFunc f args).run Try.prog w = .ok (.enter f args) w)
    (w : World)  (hin : ∀ w1, Ext w w1 → Calls Try.prog f #[rv, .agg (ctC c), .agg (stC g), .int .u32 u, .agg (stC s)] w1 fun e w' => e = .returned (.tuple #[.agg (stC s1), q, z]) ∧ Ext w1 w')
    (hqb : w.heap[q0]? = some (.cells #[z0] tq (0, 0))) (hb : w.heap[b]? = some (.cells #[.iface t v] 83 (0, 0))) : Calls Try.prog 52 #[.pointer (some ⟨b, 0, none⟩), .agg (ctC c), .agg (stC g), .int .u32 u, .agg (stC s)] w fun e w' => e = .returned (.tuple #[.agg (stC s1), q, z]) ∧ Ext w w' := by
  have hc : w.cell? ⟨b, 0, none⟩ = some (.iface t v) := cell_of_row w b 0 _ _ _ hb
  have hqc : w.cell? ⟨q0, 0, none⟩ = some z0 := cell_of_row w q0 0 _ _ _ hqb
  have hql0 := (Array.getElem?_eq_some_iff.1 hqb).1
  have hql1 : q0 < w.heap.size + 1 := by omega
  have hql2 : q0 < w.heap.size + 1 + 1 := by omega
  have hql3 : q0 < w.heap.size + 1 + 1 + 1 := by omega
  have hql4 : q0 < w.heap.size + 1 + 1 + 1 + 1 := by omega
  clear hqb
  have hl0 : b < w.heap.size := (Array.getElem?_eq_some_iff.1 hb).1
  have HB := Lib.hid hb
  have HI := Lib.hid hin
  clear hb hin
  go_enter Try.func52, Try.ntmps52
  go_wp2_with (go_at_call 37; refine (flow_none t _ (Ext.heap (((((Keep.refl [] w).alloc _).alloc _).alloc _).alloc _) HB.out)).mono ?_; rintro e w' ⟨rfl, rfl⟩)
  have hl1 : b < w.heap.size + 1 := by omega
  have hl2 : b < w.heap.size + 1 + 1 := by omega
  have hl3 : b < w.heap.size + 1 + 1 + 1 := by omega
  have hl4 : b < w.heap.size + 1 + 1 + 1 + 1 := by omega
  refine wp_region_row 12 0 (by kernel_rfl) (by kernel_rfl) ?_
  simp only [List.take, List.drop]
  iterate 4 (refine wpHead_step (fun K hK => ?_); go_simp; (refine hK _ ?_; clear hK K))
  refine wpHead_load_at rfl 37 _ rfl _ rfl (At.drew (At.alloc (At.alloc (At.alloc (At.new _ _ rfl) _) _) _)) Try.underlying37 rfl i37 ?_
  refine wpHead_load_at rfl 35 _ rfl _ rfl (At.drew (At.alloc (At.alloc (At.new _ _ (by simp)) _) _)) Try.underlying35 rfl i35 ?_
  iterate 1 (refine wpHead_step (fun K hK => ?_); go_simp; (refine hK _ ?_; clear hK K))
  refine wpHead_load_at rfl 35 _ rfl _ rfl (At.drew (At.alloc (At.new _ _ (by simp)) _)) Try.underlying35 rfl i35 ?_
  refine wpHead_step (fun K hK => ?_); go_simp
  (apply Exists.intro; refine ⟨fun W1 => ?_, hK _ ?_⟩)
  · exact HI.out _ (Ext.trans ((((((Keep.refl [] w).alloc _).alloc _).alloc _).alloc _)).drew (nx_ext _ W1))
  clear hK K
  iterate 3 (refine wpHead_step (fun K hK => ?_); go_simp; (refine hK _ ?_; clear hK K))
  refine wpHead_nil (wpPure_nil ?_)
  intro w2 hw2
  have hz : At w2 (w.heap.size + 1 + 1 + 1) 0 #[.int .u64 0, .int .u64 0, .int .u64 0, .int .u64 0, .int .u64 0, .int .u64 0, .int .u64 0, .int .u64 0] := At.ext (At.drew (At.new _ 35 (by simp))) hw2
  refine wpList_store_at rfl 35 _ _ rfl rfl rfl hz i35 rfl (stC_one s1) ?_
  go_wp2
  refine nOnly_mk ?_
  go_wp2
  refine bodyPost_ret (results_at3 rfl _ _ rfl (hz.put rfl) Try.underlying35 rfl i35) rfl ⟨rfl, ?_⟩
  exact (Keep.transE ((((((Keep.refl [] w).alloc _).alloc _).alloc _).alloc _)).drew hw2).trans (keep_wput _ _ _ _) (fun k hk hlt => by simp at hk; omega)

set_option maxHeartbeats 1000000 in
theorem flowQ_fold {q0 : Nat} {z0 : Value} {tq : TypeId} {b f : Nat} {t : TypeId} {v rv : Value} {c g s s1 : St} {u : Int} {z : Value} (hm : ∀ w, w.cell? ⟨q0, 0, none⟩ = some z0 → (method 291 t v "Fold").run Try.prog w = .ok (f, rv) w) (hf : ∀ args w, (callFunc f args).run Try.prog w = .ok (.enter f args) w)
    (w : World)  (hin : ∀ w1, Ext w w1 → Calls Try.prog f #[rv, .agg (ctC c), .agg (stC g), .int .u32 u, .agg (stC s)] w1 fun e w' => e = .returned (.tuple #[.agg (stC s1), z]) ∧ Ext w1 w')
    (hqb : w.heap[q0]? = some (.cells #[z0] tq (0, 0))) (hb : w.heap[b]? = some (.cells #[.iface t v] 83 (0, 0))) : Calls Try.prog 58 #[.pointer (some ⟨b, 0, none⟩), .agg (ctC c), .agg (stC g), .int .u32 u, .agg (stC s)] w fun e w' => e = .returned (.tuple #[.agg (stC s1), z]) ∧ Ext w w' := by
  have hc : w.cell? ⟨b, 0, none⟩ = some (.iface t v) := cell_of_row w b 0 _ _ _ hb
  have hqc : w.cell? ⟨q0, 0, none⟩ = some z0 := cell_of_row w q0 0 _ _ _ hqb
  have hql0 := (Array.getElem?_eq_some_iff.1 hqb).1
  have hql1 : q0 < w.heap.size + 1 := by omega
  have hql2 : q0 < w.heap.size + 1 + 1 := by omega
  have hql3 : q0 < w.heap.size + 1 + 1 + 1 := by omega
  have hql4 : q0 < w.heap.size + 1 + 1 + 1 + 1 := by omega
  clear hqb
  have hl0 : b < w.heap.size := (Array.getElem?_eq_some_iff.1 hb).1
  have HB := Lib.hid hb
  have HI := Lib.hid hin
  clear hb hin
  go_enter Try.func58, Try.ntmps58
  go_wp2_with (go_at_call 37; refine (flow_none t _ (Ext.heap (((((Keep.refl [] w).alloc _).alloc _).alloc _).alloc _) HB.out)).mono ?_; rintro e w' ⟨rfl, rfl⟩)
  have hl1 : b < w.heap.size + 1 := by omega
  have hl2 : b < w.heap.size + 1 + 1 := by omega
  have hl3 : b < w.heap.size + 1 + 1 + 1 := by omega
  have hl4 : b < w.heap.size + 1 + 1 + 1 + 1 := by omega
  refine wp_region_row 11 0 (by kernel_rfl) (by kernel_rfl) ?_
  simp only [List.take, List.drop]
  iterate 4 (refine wpHead_step (fun K hK => ?_); go_simp; (refine hK _ ?_; clear hK K))
  refine wpHead_load_at rfl 37 _ rfl _ rfl (At.drew (At.alloc (At.alloc (At.alloc (At.new _ _ rfl) _) _) _)) Try.underlying37 rfl i37 ?_
  refine wpHead_load_at rfl 35 _ rfl _ rfl (At.drew (At.alloc (At.alloc (At.new _ _ (by simp)) _) _)) Try.underlying35 rfl i35 ?_
  iterate 1 (refine wpHead_step (fun K hK => ?_); go_simp; (refine hK _ ?_; clear hK K))
  refine wpHead_load_at rfl 35 _ rfl _ rfl (At.drew (At.alloc (At.new _ _ (by simp)) _)) Try.underlying35 rfl i35 ?_
  refine wpHead_step (fun K hK => ?_); go_simp
  (apply Exists.intro; refine ⟨fun W1 => ?_, hK _ ?_⟩)
  · exact HI.out _ (Ext.trans ((((((Keep.refl [] w).alloc _).alloc _).alloc _).alloc _)).drew (nx_ext _ W1))
  clear hK K
  iterate 2 (refine wpHead_step (fun K hK => ?_); go_simp; (refine hK _ ?_; clear hK K))
  refine wpHead_nil (wpPure_nil ?_)
  intro w2 hw2
  have hz : At w2 (w.heap.size + 1 + 1 + 1) 0 #[.int .u64 0, .int .u64 0, .int .u64 0, .int .u64 0, .int .u64 0, .int .u64 0, .int .u64 0, .int .u64 0] := At.ext (At.drew (At.new _ 35 (by simp))) hw2
  refine wpList_store_at rfl 35 _ _ rfl rfl rfl hz i35 rfl (stC_one s1) ?_
  go_wp2
  refine nOnly_mk ?_
  go_wp2
  refine bodyPost_ret (results_at2 rfl _ _ rfl (hz.put rfl) Try.underlying35 rfl i35) rfl ⟨rfl, ?_⟩
  exact (Keep.transE ((((((Keep.refl [] w).alloc _).alloc _).alloc _).alloc _)).drew hw2).trans (keep_wput _ _ _ _) (fun k hk hlt => by simp at hk; omega)

set_option maxHeartbeats 1000000 in
theorem flowQ_turn {q0 : Nat} {z0 : Value} {tq : TypeId} {b f : Nat} {t : TypeId} {v rv : Value} {c g c1 : St} {ch r : Int} {q z : Value} (hm : ∀ w, w.cell? ⟨q0, 0, none⟩ = some z0 → (method 291 t v "Turn").run Try.prog w = .ok (f, rv) w) (hf : ∀ args w, (callFunc f args).run Try.prog w = .ok (.enter f args) w)
    (w : World)  (hin : ∀ w1, Ext w w1 → Calls Try.prog f #[rv, .agg (ctC c), .agg (stC g), .int .u64 ch, .int .i64 r] w1 fun e w' => e = .returned (.tuple #[.agg (ctC c1), q, z]) ∧ Ext w1 w')
    (hqb : w.heap[q0]? = some (.cells #[z0] tq (0, 0))) (hb : w.heap[b]? = some (.cells #[.iface t v] 83 (0, 0))) : Calls Try.prog 53 #[.pointer (some ⟨b, 0, none⟩), .agg (ctC c), .agg (stC g), .int .u64 ch, .int .i64 r] w fun e w' => e = .returned (.tuple #[.agg (ctC c1), q, z]) ∧ Ext w w' := by
  have hc : w.cell? ⟨b, 0, none⟩ = some (.iface t v) := cell_of_row w b 0 _ _ _ hb
  have hqc : w.cell? ⟨q0, 0, none⟩ = some z0 := cell_of_row w q0 0 _ _ _ hqb
  have hql0 := (Array.getElem?_eq_some_iff.1 hqb).1
  have hql1 : q0 < w.heap.size + 1 := by omega
  have hql2 : q0 < w.heap.size + 1 + 1 := by omega
  have hql3 : q0 < w.heap.size + 1 + 1 + 1 := by omega
  have hql4 : q0 < w.heap.size + 1 + 1 + 1 + 1 := by omega
  clear hqb
  have hl0 : b < w.heap.size := (Array.getElem?_eq_some_iff.1 hb).1
  have HB := Lib.hid hb
  have HI := Lib.hid hin
  clear hb hin
  go_enter Try.func53, Try.ntmps53
  go_wp2_with (go_at_call 37; refine (flow_none t _ (Ext.heap ((((Keep.refl [] w).alloc _).alloc _).alloc _) HB.out)).mono ?_; rintro e w' ⟨rfl, rfl⟩)
  have hl1 : b < w.heap.size + 1 := by omega
  have hl2 : b < w.heap.size + 1 + 1 := by omega
  have hl3 : b < w.heap.size + 1 + 1 + 1 := by omega
  refine wp_region_row 12 0 (by kernel_rfl) (by kernel_rfl) ?_
  simp only [List.take, List.drop]
  iterate 4 (refine wpHead_step (fun K hK => ?_); go_simp; (refine hK _ ?_; clear hK K))
  refine wpHead_load_at rfl 37 _ rfl _ rfl (At.drew (At.alloc (At.alloc (At.new _ _ rfl) _) _)) Try.underlying37 rfl i37 ?_
  refine wpHead_load_at rfl 35 _ rfl _ rfl (At.drew (At.alloc (At.new _ _ (by simp)) _)) Try.underlying35 rfl i35 ?_
  iterate 2 (refine wpHead_step (fun K hK => ?_); go_simp; (refine hK _ ?_; clear hK K))
  refine wpHead_step (fun K hK => ?_); go_simp
  (apply Exists.intro; refine ⟨fun W1 => ?_, hK _ ?_⟩)
  · exact HI.out _ (Ext.trans (((((Keep.refl [] w).alloc _).alloc _).alloc _)).drew (nx_ext _ W1))
  clear hK K
  iterate 3 (refine wpHead_step (fun K hK => ?_); go_simp; (refine hK _ ?_; clear hK K))
  refine wpHead_nil (wpPure_nil ?_)
  intro w2 hw2
  have hz : At w2 (w.heap.size + 1 + 1) 0 #[.int .u64 0, .int .u64 0, .int .u64 0, .int .u64 0] := At.ext (At.drew (At.new _ 37 (by simp))) hw2
  refine wpList_store_at rfl 37 _ _ rfl rfl rfl hz i37 rfl (ctC_one c1) ?_
  go_wp2
  refine nOnly_mk ?_
  go_wp2
  refine bodyPost_ret (results_at3 rfl _ _ rfl (hz.put rfl) Try.underlying37 rfl i37) rfl ⟨rfl, ?_⟩
  exact (Keep.transE (((((Keep.refl [] w).alloc _).alloc _).alloc _)).drew hw2).trans (keep_wput _ _ _ _) (fun k hk hlt => by simp at hk; omega)

end Go.Proofs.Ytalpjipopipncaa
