/- What a row over a graph opens and shuts. Conditions: those of each theorem. -/
import Derived.Test.YtalpjipopipncaaRows
import Derived.ProofKit
import Derived.SizedLaws
import Derived.Lib.SmallJoins
import Derived.Deep.Slices
import Derived.Deep.Fields
import Derived.ChangeSame
import Derived.Below
import Derived.Test.YtalpjipopipncaaLst
namespace Go.Proofs.Ytalpjipopipncaa
open Go Go.ChangeShapes Go.WideShapes Go.ChangeAt Go.RowKit Go.Joins Go.Deep

theorem Try.own : ownKnob Try.prog.godebug = none := by kernel_rfl
theorem Try.laidOut : laidOutB Try.prog = true := by kernel_rfl
theorem Try.cells24 : Try.prog.cellsOf 24 = 2 := by kernel_rfl
theorem Try.cells51 : Try.prog.cellsOf 51 = 3 := by kernel_rfl
theorem Try.bytes51 : Try.prog.bytesOf 51 = 12 := by kernel_rfl
section
variable {H : Type} {enc : TypeId × Value → H} {P : Program}
theorem post_of_below {f : Func} {s : ChangeSpec} {apart fresh handsOn again : Bool} {W W' : World} {args : Array Value} {v : Value} {ds gs : List (DataW H)} {before pa pv : List MemPlace}
    (hW : DataW.Whole enc P f.params.toList s.vars apart W args.toList ds gs before)
    (hres : ∀ (b : Nat) (sp : Nat → Bool) (hd : Bool), DataW.TrodAll enc P W' b sp hd f.resultTypes.toList (v.resultList f.resultTypes.size) (s.fn H (ds ++ gs)).results [])
    (hargs : ∀ sp : Nat → Bool, (∀ p ∈ before, sp p.block = true) → DataW.TrodAll enc P W' 0 sp true f.params.toList args.toList (s.fn H (ds ++ gs)).args pa)
    (hvars : ∀ sp : Nat → Bool, (∀ p ∈ before, sp p.block = true) → DataW.TrodVars enc P W' sp s.vars (s.fn H (ds ++ gs)).vars pv)
    (hps : before = pa ++ pv) (hb : Below W.heap.size W W')
    (hok : ∀ (j : Nat) (t : TypeId) (r : Value), f.resultTypes[j]? = some t → (v.resultList f.resultTypes.size)[j]? = some r → Value.okWide P W' .any 0 t r) :
    s.post enc P f apart fresh handsOn again W args v W' := by
  have hlt : ∀ p ∈ before, p.block < W.heap.size := fun p hp => hW.lt p hp
  have hold : ∀ p ∈ before, (fun b => decide (b < W.heap.size)) p.block = true := fun p hp => by simpa using hlt p hp
  refine ⟨ds, gs, before, [], pa, pv, hW, hres _ _ _, hargs _ hold, hvars _ hold, World.keptBut_mono (fun p hp => ⟨hp, ?_⟩) (hb.frame (· ∈ before)), fun _ => ?_⟩
  · rw [hps, List.mem_append] at hp
    exact Or.inr hp
  · obtain ⟨_, _, _, _, _, hz, hn⟩ := hW
    refine ⟨hok, _, _, ([] ++ pa) ++ pv, ⟨[] ++ pa, pv, trodAll_append (hargs _ (fun _ _ => rfl)) (hres _ _ _), hvars _ (fun _ _ => rfl), rfl, ?_, ?_⟩, ?_⟩
    · intro b off hp
      have hin : MemPlace.cell b off ∈ before := by rw [hps]; simpa using hp
      rw [hb.frozen (hlt _ hin)]
      exact hz b off hin
    · intro ha
      have := hn ha
      rw [hps] at this
      simpa using this
    · intro p hp _
      rw [hps]
      simpa using hp
end
section
variable {H : Type} {enc : TypeId × Value → H} {P : Program} {w : World} {base : Nat} {spare : Nat → Bool} {held : Bool}
theorem open_slice_fields {t e : TypeId} {fs : Array Field} {fuel : Nat} {cs : List Value} {x : DataW H × List MemPlace} (ht : P.underlying t = some (.slice e)) (he : P.underlying e = some (.struct fs))
    (hone : oneCellFields P fs = true) (hC : P.cellsOf e = fs.size) (h : DataW.trod enc P w base spare held fuel t cs = some x) :
    (cs = [.slice none 0 0] ∧ x = (.nil, [])) ∨
    ∃ (a : Addr) (len cap m : Nat) (D : Nat → DataW H) (Pl : Nat → List MemPlace), cs = [.slice (some a) len cap] ∧ base ≤ a.block ∧ len ≤ cap ∧ cap ≤ maxLen ∧ m = (if spare a.block then cap else len) ∧
      x = (.slice ((List.range len).map D) ((List.range (m - len)).map fun j => D (len + j)), MemPlace.row a (m * fs.size) ++ (List.range m).flatMap Pl) ∧
      ∀ i, i < m → ∃ (ys : List (DataW H × List MemPlace)) (n : Nat), D i = .agg (ys.map (·.1)) ∧ Pl i = ys.flatMap (·.2) ∧ ys.length = fs.size ∧
        ∀ (j : Nat) (f : Field), fs[j]? = some f → ∃ (v : Value) (y : DataW H × List MemPlace), w.cell? (a.add (i * fs.size + j)) = some v ∧ ys[j]? = some y ∧ DataW.trod enc P w base spare held n f.type [v] = some y := by
  rcases open_slice ht h with h0 | ⟨a, len, cap, m, n, D, Pl, hcs, hb, hl, hm, hmm, hx, hi⟩
  · exact .inl h0
  · refine .inr ⟨a, len, cap, m, D, Pl, hcs, hb, hl, hm, hmm, by rw [hC] at hx; exact hx, fun i him => ?_⟩
    obtain ⟨cs', hc, ht'⟩ := hi i him
    rw [hC] at hc
    obtain ⟨ys, n', hn', hy, hlen, hyl, hf⟩ := DataW.trod_struct he ht'
    obtain ⟨_, hcl, hat⟩ := World.cells?_some hc
    simp only [Prod.mk.injEq] at hy
    refine ⟨ys, n', hy.1, hy.2, hyl, fun j f hj => ?_⟩
    obtain ⟨ho, hk⟩ := hone_of hone j f hj
    have hjl : j < fs.size := (Array.getElem?_eq_some_iff.1 hj).1
    have hcell := hat j hjl
    have hv : cs'[j]? = some (cs'[j]'(by omega)) := List.getElem?_eq_getElem (by omega)
    have h1 := hf j f hj
    rw [ho, hk] at h1
    have hone' : (cs'.drop j).take 1 = [cs'[j]'(by omega)] := by
      rw [List.drop_eq_getElem_cons (by omega)]
      rfl
    rw [hone'] at h1
    have hys : ys[j]? = some (ys[j]'(by omega)) := List.getElem?_eq_getElem (by omega)
    refine ⟨_, _, ?_, hys, h1.trans hys⟩
    rw [← Go.Deep.add_add, hcell, hv]
end
section
variable {H : Type} {enc : TypeId × Value → H} {W : World} {base : Nat} {spare : Nat → Bool} {held : Bool}
theorem u32_bounds {n : Int} (h : (Lit.int .u32 n).wf = true) : ∃ k : Nat, n = k ∧ k < 4294967296 := by
  simp [Lit.wf, IntKind.min, IntKind.max, IntKind.bits, IntKind.signed] at h
  exact ⟨n.toNat, by omega, by omega⟩
set_option maxRecDepth 100000 in
/-- A graph that is handed in: its number and its edges. -/
theorem open_graph {r : Reach} {b0 : Nat} {v : Value} {d : DataW H} {p : List MemPlace} (hv : Value.okWide Try.prog W r b0 24 v) (h : DataW.Trod enc Try.prog W base spare held 24 v d p) (hsz : ∀ n ∈ d.weights Try.prog 24, n ≤ reachBytes) :
    ∃ (N : Int) (ao : Option Addr) (cap : Nat) (E : List Edg), v = .agg #[.int .i64 N, .slice ao E.length cap] ∧ E.length ≤ 11728124029269 ∧ (∀ e ∈ E, e.s < 4294967296 ∧ e.d < 4294967296 ∧ e.w < 4294967296) ∧ EdgesIn W ao E := by
  obtain ⟨c0, c1, y0, y1, m, rfl, rfl, rfl, hy0, hy1⟩ := open_agg2 Try.underlying24 (by kernel_rfl) Try.cells24 hv h
  obtain ⟨N, e0, rfl, _⟩ := DataW.trod_int Try.underlying3 hy0
  simp only [List.cons.injEq, and_true] at e0
  subst e0
  rcases open_slice_fields Try.underlying22 Try.underlying51 (by kernel_rfl) Try.cells51 hy1 with ⟨e1, e2⟩ | ⟨a, len, cap, m2, D, Pl, e1, hb, hl, hm, hm2, hx, hi⟩
  · simp only [List.cons.injEq, and_true] at e1
    subst e1
    exact ⟨N, none, 0, [], rfl, by simp, by simp, fun h => absurd rfl h⟩
  · simp only [List.cons.injEq, and_true] at e1
    subst e1
    have hlm : len ≤ m2 := by rw [hm2]; split <;> omega
    have hex : ∀ i, i < len → ∃ x : Edg, (x.s < 4294967296 ∧ x.d < 4294967296 ∧ x.w < 4294967296) ∧ W.cell? (a.add (i * 3)) = some (.int .u32 (x.s : Nat)) ∧ W.cell? (a.add (i * 3 + 1)) = some (.int .u32 (x.d : Nat)) ∧ W.cell? (a.add (i * 3 + 2)) = some (.int .u32 (x.w : Nat)) := by
      intro i hil
      obtain ⟨ys, n, _, _, _, hf⟩ := hi i (by omega)
      obtain ⟨v0, x0, hc0, _, ht0⟩ := hf 0 _ rfl
      obtain ⟨v1, x1, hc1, _, ht1⟩ := hf 1 _ rfl
      obtain ⟨v2, x2, hc2, _, ht2⟩ := hf 2 _ rfl
      obtain ⟨n0, e0, _, w0⟩ := DataW.trod_int Try.underlying25 ht0
      obtain ⟨n1, e1, _, w1⟩ := DataW.trod_int Try.underlying25 ht1
      obtain ⟨n2, e2, _, w2⟩ := DataW.trod_int Try.underlying25 ht2
      simp only [List.cons.injEq, and_true] at e0 e1 e2
      subst e0; subst e1; subst e2
      obtain ⟨k0, rfl, l0⟩ := u32_bounds w0
      obtain ⟨k1, rfl, l1⟩ := u32_bounds w1
      obtain ⟨k2, rfl, l2⟩ := u32_bounds w2
      exact ⟨⟨k0, k1, k2⟩, ⟨l0, l1, l2⟩, hc0, hc1, hc2⟩
    have hlb : len ≤ 11728124029269 := by
      subst hx
      have h1 := hsz ((((List.range len).map D).length + ((List.range (m2 - len)).map fun j => D (len + j)).length) * Try.prog.bytesOf 51) (by simp [DataW.weights, DataW.weightsEach, Try.underlying24, Try.underlying22])
      rw [Try.bytes51] at h1
      simp only [List.length_map, List.length_range, reachBytes] at h1
      omega
    let F : Nat → Edg := fun i => if h : i < len then Classical.choose (hex i h) else ⟨0, 0, 0⟩
    have hF : ∀ i (h : i < len), F i = Classical.choose (hex i h) := fun i h => dif_pos h
    have hlE : ((List.range len).map F).length = len := by simp
    refine ⟨N, some a, cap, (List.range len).map F, by rw [hlE], by rw [hlE]; exact hlb, fun e he => ?_, fun _ => ⟨a, rfl, fun i h => ?_⟩⟩
    · obtain ⟨i, hi2, rfl⟩ := List.mem_map.1 he
      rw [hF i (List.mem_range.1 hi2)]
      exact (Classical.choose_spec (hex i (List.mem_range.1 hi2))).1
    · have hil : i < len := by rwa [hlE] at h
      have e : ((List.range len).map F)[i] = F i := by simp
      rw [e, hF i hil]
      exact (Classical.choose_spec (hex i hil)).2
end
end Go.Proofs.Ytalpjipopipncaa
