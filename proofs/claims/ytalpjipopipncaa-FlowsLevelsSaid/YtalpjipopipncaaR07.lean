/- The row FlowsLevelsSaid is proved: the law FlowsLevels returns true and leaves its input as it was. Conditions: none. -/
import Derived.Test.YtalpjipopipncaaRow
import Derived.Test.YtalpjipopipncaaL07
namespace Go.Proofs.Ytalpjipopipncaa
open Go Go.ChangeShapes Go.WideShapes Go.ChangeAt Go.RowKit Go.Joins Go.Deep

theorem list_lt {N kd : Int} {E : List Edg} : ∀ x ∈ listE (sizeN N) kd E, x.s < sizeN N ∧ x.d < sizeN N := fun x hx => by
  obtain ⟨y, _, rfl⟩ := List.mem_map.1 hx
  exact ⟨Nat.mod_lt _ (sizeN_pos N), Nat.mod_lt _ (sizeN_pos N)⟩
theorem law7_true (N : Int) (ao : Option Addr) (cap : Nat) (E : List Edg) (src : Nat) (hsrc : src < 4294967296) (hlen : E.length ≤ 11728124029269) (hE : ∀ e ∈ E, e.s < 4294967296 ∧ e.d < 4294967296 ∧ e.w < 4294967296) (w : World) (he : EdgesIn w ao E) :
    Calls Try.prog 7 #[.agg #[.int .i64 N, .slice ao E.length cap], .int .u32 src] w fun e w' => e = .returned (.bool true) ∧ Ext w w' := by
  have hn1 := sizeN_pos N
  obtain ⟨K, hK⟩ := spread_ok (E := listE (sizeN N) 1 E) (n := sizeN N) (srcs := [src % sizeN N]) (rch := false) list_lt (sizeN_le N) ⟨src % sizeN N, List.mem_singleton.2 rfl, Nat.mod_lt _ hn1⟩
  exact law7_any N ao cap E src hsrc hlen hE K hK w he

theorem shut_true {H : Type} {enc : TypeId × Value → H} {W : World} {base : Nat} {sp : Nat → Bool} {held : Bool} : DataW.Trod enc Try.prog W base sp held 4 (.bool true) (.lit (.bool true)) [] := ⟨1, by simp [DataW.trod, Value.cells, Try.underlying4]⟩

set_option maxRecDepth 100000 in
theorem f7_lifted (os : Os) (started : os.Started) (H : Type) (enc : TypeId × Value → H) :
    ReturnsInHanded {} Try.checked os 7 .any (Rows.flowsLevelsSpec.pre6 enc Try.prog Try.f7 Rows.flowsLevelsRow.domain false) (Rows.flowsLevelsSpec.post enc Try.prog Try.f7 false true false false) := by
  refine returnsInHanded_of_change_sized (C := Try.checked) Try.own started (by kernel_rfl) Try.func7
    (ChangeSpec.witness6 (enc := enc) (C := Try.checked) false ⟨#[], #[.agg #[.int .i64 0, .slice none 0 0], .int .u32 0], []⟩ 8 (by kernel_rfl) (by kernel_rfl) (by kernel_rfl) (by kernel_rfl)) ?_
  intro W base args ds gs before hval0 hW hcnd hsz0 _
  have hval : ∀ (j : Nat) t v, Try.f7.params[j]? = some t → args[j]? = some v → Value.okWide Try.prog W .any base t v := hval0
  have hsz : (DataW.weightsEach Try.prog (Try.f7.params.toList ++ Rows.flowsLevelsSpec.plain.varTypes Try.prog) (ds ++ gs)).all (· ≤ reachBytes) = true := hsz0
  have hW' := hW
  obtain ⟨p, q, hA0, hV, rfl, hfz, hnd⟩ := hW
  have hA : DataW.TrodAll enc Try.prog W 0 (fun _ => true) true Try.f7.params.toList args.toList ds p := hA0
  rw [Try.params7] at hA hval hsz
  obtain ⟨v0, v1, d0, d1, p0, p1, rfl, rfl, rfl, h0, h1⟩ := trodAll_two hA
  obtain ⟨rfl, rfl⟩ := trodVars_none hV
  clear hA0 hval0 hsz0
  obtain ⟨N, ao, cap, E, rfl, hlen, hE, he⟩ := open_graph (hval 0 24 v0 rfl rfl) h0 (fun n hn => by
    have := List.all_eq_true.1 hsz n (DataW.weights_mem_each (j := 0) (t := 24) (d := d0) rfl rfl n hn)
    simpa using this)
  obtain ⟨n1, rfl, rfl, rfl, hw1⟩ := open_int Try.underlying25 (hval 1 25 v1 rfl rfl) h1
  obtain ⟨src, rfl, hsrc⟩ := u32_bounds hw1
  simp only [List.append_nil] at hW'
  have hlt : ∀ x ∈ p0, x.block < W.heap.size := fun x hx => hW'.lt x (by simpa using hx)
  refine (law7_true N ao cap E src hsrc hlen hE W he).mono fun e W' ⟨he', hw⟩ => ?_
  subst he'
  have hb : Below W.heap.size W W' := hw.below
  exact ⟨_, rfl, post_of_below (pa := p0) (pv := []) hW' (fun _ _ _ => trodAll_mk1 shut_true)
    (fun sp hsp => by
      have := trodAll_mk2 (WideElems.Trod_stays Try.laidOut (by kernel_rfl) (of_decide_eq_true (by kernel_rfl)) h0 (fun x hx => hb.same (hlt x hx)) (fun x hx => hsp x (by simpa using hx)))
        (WideElems.Trod_stays Try.laidOut (by kernel_rfl) (of_decide_eq_true (by kernel_rfl)) h1 (fun x hx => by cases hx) (fun x hx => by cases hx))
      rw [List.append_nil] at this
      exact this)
    (fun _ _ => rfl) (by simp) hb (ok_one (by kernel_rfl) rfl (okWide_bool_mk Try.underlying4 true))⟩

theorem flowsLevels_holds : Rows.FlowsLevelsSaid :=
  OpenClaim.holds_of_wide 7 Try.f7 rfl rfl rfl rfl rfl rfl rfl ⟨rfl, rfl, rfl, rfl, rfl⟩ rfl rfl rfl rfl rfl (by kernel_rfl) Try.func7 (by kernel_rfl)
    (of_decide_eq_true (by kernel_rfl)) (by unfold Func.isWrapper; first | (rw [if_pos (by decide +kernel)]; kernel_rfl) | (rw [if_neg (by decide +kernel)]; exact ⟨rfl, rfl⟩))
    (fun os started H enc _ => f7_lifted os started H enc)
end Go.Proofs.Ytalpjipopipncaa
