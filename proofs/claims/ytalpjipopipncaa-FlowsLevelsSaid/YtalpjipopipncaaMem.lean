/- Rows of elements of several cells: loads and stores in the midst of a block. Conditions: none. -/
import Derived.Test.YtalpjipopipncaaHead
import Derived.Deep.Draws
namespace Go.Proofs.Ytalpjipopipncaa
open Go Go.RowKit

theorem Keep.setRow {S : List Nat} {a w : World} (h : Keep S a w) {g : Nat} (hp : g ∈ S ∨ a.heap.size ≤ g) (cs : Array Value) : Keep S a (w.setRow g cs) :=
  ⟨h.os, h.tape, h.output, by simpa using h.size, fun k hk hn => (setRow_other w g k cs (by
    rintro rfl
    rcases hp with hp | hp
    · exact hn hp
    · omega)).trans (h.block k hk hn)⟩
theorem Keep.drewN {S : List Nat} {a w : World} (h : Keep S a w) (n : Nat) : Keep S a (w.drewN n) := ⟨h.os, h.tape, h.output, h.size, h.block⟩
theorem Keep.grown {S : List Nat} {a w w' : World} {row : Option Nat} (h : Keep S a w) (hg : w.grownBy w' row) (hr : ∀ k, row = some k → k ∈ S ∨ a.heap.size ≤ k) : Keep S a w' :=
  ⟨hg.os.trans h.os, hg.tape.trans h.tape, hg.output.trans h.output, Nat.le_trans h.size hg.size, fun k hk hn => (hg.block k (Nat.lt_of_lt_of_le hk h.size) (fun e => by
    rcases hr k e.symm with h1 | h1
    · exact hn h1
    · omega)).trans (h.block k hk hn)⟩
theorem Keep.below {S : List Nat} {N : Nat} {W a w : World} (hb : Below N W a) (hN : N ≤ a.heap.size) (h : Keep S a w) (hS : ∀ k ∈ S, N ≤ k) : Below N W w :=
  ⟨h.os.trans hb.os, h.tape.trans hb.tape, h.output.trans hb.output, Nat.le_trans hb.size h.size, fun k hk => (h.block k (by omega) (fun hs => by have := hS k hs; omega)).trans (hb.block k hk)⟩

theorem size_le {S : List Nat} {a w : World} (h : Keep S a w) : a.heap.size ≤ w.heap.size := h.size

section
variable {P : Program}

theorem add_at (g off j : Nat) : (⟨g, off, none⟩ : Addr).add j = ⟨g, off + j, none⟩ := by
  unfold Addr.add
  split
  · subst_vars; rfl
  · rfl

/-- Is this type's shape that of an aggregate? -/
def aggD : TypeDesc → Bool
  | .struct _ | .array _ _ => true
  | _ => false

theorem run_load_at (w : World) (g off : Nat) (t ty : TypeId) (cur cells : Array Value) (fr : Nat × Nat) (d : TypeDesc) (hg : w.heap[g]? = some (.cells cur t fr))
    (hu : P.underlying ty = some d) (hd : aggD d = true) (hi : (P.info? ty).map (·.size) = some cells.size) (hc : ∀ j, j < cells.size → cur[off + j]? = cells[j]?) :
    (loadVar ty ⟨g, off, none⟩).run P w = .ok (.agg cells) w := by
  have hl : (loadCells ⟨g, off, none⟩ cells.toList.length).run P w = .ok cells.toList.toArray w :=
    run_loadCells_list (P := P) w ⟨g, off, none⟩ cells.toList (fun j v hv => by
      rw [add_at, cell_of_row w g (off + j) cur t fr hg]
      have hj : j < cells.size := by simpa using (List.getElem?_eq_some_iff.1 hv).1
      rw [hc j hj]
      simpa using hv)
  cases hq : P.info? ty with
  | none => simp [hq] at hi
  | some i =>
    have hs : i.size = cells.size := by simpa [hq] using hi
    have hagg : (isAgg ty).run P w = .ok true w := by
      unfold isAgg
      rw [Sem.run_bind, run_underlying hu w]
      cases d <;> simp_all [aggD]
    simp only [Array.length_toList, Array.toArray_toList] at hl
    simp [loadVar, Sem.run_bind, hagg, sizeOf, typeInfo, hq, hs, hl]

/-- cells, laid over cur from off on. -/
def spl (cur : Array Value) (off : Nat) (cells : Array Value) : Array Value := (cur.toList.take off ++ cells.toList ++ cur.toList.drop (off + cells.size)).toArray
theorem spl_size {cur cells : Array Value} {off : Nat} (h : off + cells.size ≤ cur.size) : (spl cur off cells).size = cur.size := by
  simp [spl]; omega
theorem spl_in {cur cells : Array Value} {off j : Nat} (h : off + cells.size ≤ cur.size) (hj : j < cells.size) : (spl cur off cells)[off + j]? = cells[j]? := by
  simp only [spl, List.getElem?_toArray]
  have hm : min off cur.size = off := by omega
  rw [List.append_assoc, List.getElem?_append_right (by simp [hm]), List.getElem?_append_left (by simp [hm]; omega)]
  simp [hm]
theorem spl_out {cur cells : Array Value} {off j : Nat} (h : off + cells.size ≤ cur.size) (hj : j < off ∨ off + cells.size ≤ j) : (spl cur off cells)[j]? = cur[j]? := by
  simp only [spl, List.getElem?_toArray]
  rcases hj with hj | hj
  · rw [List.append_assoc, List.getElem?_append_left (by simp; omega)]
    simp [hj]
  · rw [List.getElem?_append_right (by simp; omega)]
    have : min off cur.size = off := by omega
    simp only [List.length_append, List.length_take, Array.length_toList, this, List.getElem?_drop]
    rw [show off + cells.size + (j - (off + cells.size)) = j by omega]
    simp

theorem run_store_at (w : World) (g off : Nat) (t ty : TypeId) (cur cells : Array Value) (hg : w.heap[g]? = some (.cells cur t (0, 0))) (hi : (P.info? ty).map (·.size) = some cells.size)
    (hfit : off + cells.size ≤ cur.size) (h1 : cells.all (·.oneCell') = true) :
    (storeVar ty ⟨g, off, none⟩ (.agg cells)).run P w = .ok () (w.setRow g (spl cur off cells)) := by
  have hst := run_storeCells_at P g off t cells.toList 0 cur w hg (by simpa using hfit) (fun v hv => (Array.all_eq_true_iff_forall_mem.1 h1) v (by simpa using hv))
  cases hq : P.info? ty with
  | none => simp [hq] at hi
  | some i =>
    have hs : cells.size = i.size := by simp [hq] at hi; omega
    simp only [Nat.add_zero, Array.length_toList] at hst
    simp [storeVar, sizeOf, typeInfo, hq, Value.cells, hs, hst, spl]

/-- These cells lie in block g from off on. -/
def At (w : World) (g off : Nat) (cells : Array Value) : Prop :=
  ∃ cur t, w.heap[g]? = some (.cells cur t (0, 0)) ∧ off + cells.size ≤ cur.size ∧ ∀ j, j < cells.size → cur[off + j]? = cells[j]?
theorem At.lt {w : World} {g off : Nat} {cells : Array Value} (h : At w g off cells) : g < w.heap.size := by
  obtain ⟨cur, t, hg, _⟩ := h
  exact (Array.getElem?_eq_some_iff.1 hg).1
theorem At.keep {S : List Nat} {w w' : World} {g off : Nat} {cells : Array Value} (h : At w g off cells) (hk : Keep S w w') (hn : g ∉ S) : At w' g off cells := by
  obtain ⟨cur, t, hg, r⟩ := h
  exact ⟨cur, t, hk.heap hg hn, r⟩
theorem At.ext {w w' : World} {g off : Nat} {cells : Array Value} (h : At w g off cells) (hk : Ext w w') : At w' g off cells := h.keep hk (by simp)
theorem At.cell {w : World} {g off : Nat} {cells : Array Value} (h : At w g off cells) {j : Nat} {v : Value} (hj : cells[j]? = some v) : w.cell? ⟨g, off + j, none⟩ = some v := by
  obtain ⟨cur, t, hg, _, hc⟩ := h
  rw [cell_of_row w g (off + j) cur t _ hg, hc j (Array.getElem?_eq_some_iff.1 hj).1, hj]
theorem At.frozen {w : World} {g off : Nat} {cells : Array Value} (h : At w g off cells) (j : Nat) : w.frozen? ⟨g, j, none⟩ = false := by
  obtain ⟨cur, t, hg, _⟩ := h
  exact frozen_of_row w g j cur t hg
theorem At.whole {w : World} {g : Nat} {t : TypeId} {cur : Array Value} (h : w.heap[g]? = some (.cells cur t (0, 0))) : At w g 0 cur := ⟨cur, t, h, by simp, fun j _ => by simp⟩

theorem At.load {w : World} {g off : Nat} {cells : Array Value} (h : At w g off cells) (ty : TypeId) (d : TypeDesc) (hu : P.underlying ty = some d) (hd : aggD d = true) (hi : (P.info? ty).map (·.size) = some cells.size) :
    (loadVar ty ⟨g, off, none⟩).run P w = .ok (.agg cells) w := by
  obtain ⟨cur, t, hg, _, hc⟩ := h
  exact run_load_at w g off t ty cur cells _ d hg hu hd hi hc

/-- The world behind a store of these cells at g, off. -/
def wput (w : World) (g off : Nat) (cells : Array Value) : World :=
  match w.heap[g]? with
  | some (.cells cur _ _) => w.setRow g (spl cur off cells)
  | _ => w
theorem wput_eq {w : World} {g off : Nat} {cells cur : Array Value} {t : TypeId} {fr : Nat × Nat} (hg : w.heap[g]? = some (.cells cur t fr)) : wput w g off cells = w.setRow g (spl cur off cells) := by simp [wput, hg]
theorem keep_wput (w : World) (g off : Nat) (cells : Array Value) : Keep [g] w (wput w g off cells) := by
  unfold wput
  split
  · exact (Keep.refl [g] w).setRow (.inl (by simp)) _
  · exact Keep.refl _ _
theorem wput_size (w : World) (g off : Nat) (cells : Array Value) : (wput w g off cells).heap.size = w.heap.size := by
  unfold wput
  split <;> simp
theorem wput_heap {w : World} {g off : Nat} {cells cur : Array Value} {t : TypeId} {fr : Nat × Nat} (hg : w.heap[g]? = some (.cells cur t fr)) : (wput w g off cells).heap[g]? = some (.cells (spl cur off cells) t fr) := by
  rw [wput_eq hg]; exact setRow_heap w g cur _ t fr hg
theorem At.store {w : World} {g off : Nat} {old : Array Value} (h : At w g off old) (ty : TypeId) (cells : Array Value) (hi : (P.info? ty).map (·.size) = some cells.size) (hs : cells.size = old.size) (h1 : cells.all (·.oneCell') = true) :
    (storeVar ty ⟨g, off, none⟩ (.agg cells)).run P w = .ok () (wput w g off cells) := by
  obtain ⟨cur, t, hg, hf, _⟩ := h
  rw [wput_eq hg]
  exact run_store_at w g off t ty cur cells hg hi (by omega) h1
theorem At.put {w : World} {g off : Nat} {old : Array Value} (h : At w g off old) {cells : Array Value} (hs : cells.size = old.size) : At (wput w g off cells) g off cells := by
  obtain ⟨cur, t, hg, hf, _⟩ := h
  exact ⟨_, t, wput_heap hg, by rw [spl_size (by omega)]; omega, fun j hj => spl_in (by omega) hj⟩

section
variable {ops : Array Oper} {rest : List Oper} {o : Oper} {a : Act} {w : World} {Q : Exit → Act → World → Prop} {g off : Nat} {cells old : Array Value}
theorem run_load_op (ty : TypeId) (x : Operand) (ho : o.op = .load ty x) (d : TypeDesc) (hx : a.eval x = .pointer (some ⟨g, off, none⟩)) (hA : At w g off cells) (hu : P.underlying ty = some d) (hd : aggD d = true) (hi : (P.info? ty).map (·.size) = some cells.size) :
    (execOp a.eval o).run P w = .ok (.value (.agg cells)) w := by
  unfold execOp
  simp only [ho, hx, Instr.loadAt, Instr.sureAddr, Sem.run_bind, Sem.run_pure, Result.andThen_ok, hA.load ty d hu hd hi]
theorem wpList_load_at (hgd : o.guard = none) (ty : TypeId) (x : Operand) (ho : o.op = .load ty x) (d : TypeDesc) (hx : a.eval x = .pointer (some ⟨g, off, none⟩)) (hA : At w g off cells) (hu : P.underlying ty = some d) (hd : aggD d = true) (hi : (P.info? ty).map (·.size) = some cells.size)
    (h : wpList P ops Q rest (a.put o.dst (.agg cells)) w) : wpList P ops Q (o :: rest) a w :=
  wpList_plain hgd fun K hK => by
    unfold Oper.wp
    rw [run_load_op ty x ho d hx hA hu hd hi]
    exact hK _ _ h
theorem wpHead_load_at {T : Act → Prop} (hgd : o.guard = none) (ty : TypeId) (x : Operand) (ho : o.op = .load ty x) (d : TypeDesc) (hx : a.eval x = .pointer (some ⟨g, off, none⟩)) (hA : At w g off cells) (hu : P.underlying ty = some d) (hd : aggD d = true) (hi : (P.info? ty).map (·.size) = some cells.size)
    (h : wpHead P ops w T rest (a.put o.dst (.agg cells))) : wpHead P ops w T (o :: rest) a := by
  unfold wpHead
  rw [if_pos (by simp [Region.wanted, hgd])]
  refine ⟨_, fun w' hw' => ?_, h⟩
  unfold qAt
  rw [run_load_op ty x ho d hx (hA.ext hw') hu hd hi]
  exact ⟨rfl, Ext.refl _⟩
theorem wpList_store_at (hgd : o.guard = none) (ty : TypeId) (x y : Operand) (ho : o.op = .store ty x y) (hx : a.eval x = .pointer (some ⟨g, off, none⟩)) (hy : a.eval y = .agg cells) (hA : At w g off old) (hi : (P.info? ty).map (·.size) = some cells.size) (hs : cells.size = old.size) (h1 : cells.all (·.oneCell') = true)
    (h : wpList P ops Q rest (a.put o.dst undef) (wput w g off cells)) : wpList P ops Q (o :: rest) a w :=
  wpList_plain hgd fun K hK => by
    unfold Oper.wp execOp
    simp only [ho, hx, hy, Instr.storeAt, Instr.sureAddr, Sem.run_bind, Sem.run_pure, Result.andThen_ok, hA.store ty cells hi hs h1]
    exact hK _ _ h
end
end

theorem At.new {w : World} {n : Nat} (cs : Array Value) (t : TypeId) (hn : n = w.heap.size) : At (w.alloc (.cells cs t)) n 0 cs := by
  subst hn; exact At.whole (heap_alloc_new w _)
theorem At.drew {w : World} {g off : Nat} {cells : Array Value} (h : At w g off cells) : At w.drew g off cells := h
theorem At.alloc {w : World} {g off : Nat} {cells : Array Value} (h : At w g off cells) (o : Obj) : At (w.alloc o) g off cells := h.ext (Ext.alloc w o)
section
variable {P : Program}
theorem results_at1 {fn : Func} {p : Tmp} {ty : TypeId} (h : fn.results = #[.cell p ty]) (tmps : Array Value) {w : World} {g : Nat} {cells : Array Value} (d : TypeDesc) (hp : tmps.getD p undef = .pointer (some ⟨g, 0, none⟩)) (hA : At w g 0 cells)
    (hu : P.underlying ty = some d) (hd : aggD d = true) (hi : (P.info? ty).map (·.size) = some cells.size) : (results fn tmps).run P w = .ok (.agg cells) w := by
  have hp' : tmps[p]?.getD undef = .pointer (some ⟨g, 0, none⟩) := by simpa using hp
  simp [results, h, hp', asAddr, hA.load ty d hu hd hi]
theorem results_at2 {fn : Func} {p u : Tmp} {ty : TypeId} (h : fn.results = #[.cell p ty, .tmp u]) (tmps : Array Value) {w : World} {g : Nat} {cells : Array Value} (d : TypeDesc) (hp : tmps.getD p undef = .pointer (some ⟨g, 0, none⟩)) (hA : At w g 0 cells)
    (hu : P.underlying ty = some d) (hd : aggD d = true) (hi : (P.info? ty).map (·.size) = some cells.size) : (results fn tmps).run P w = .ok (.tuple #[.agg cells, tmps.getD u undef]) w := by
  have hp' : tmps[p]?.getD undef = .pointer (some ⟨g, 0, none⟩) := by simpa using hp
  simp [results, h, hp', asAddr, hA.load ty d hu hd hi]
theorem results_at3 {fn : Func} {p u v : Tmp} {ty : TypeId} (h : fn.results = #[.cell p ty, .tmp u, .tmp v]) (tmps : Array Value) {w : World} {g : Nat} {cells : Array Value} (d : TypeDesc) (hp : tmps.getD p undef = .pointer (some ⟨g, 0, none⟩)) (hA : At w g 0 cells)
    (hu : P.underlying ty = some d) (hd : aggD d = true) (hi : (P.info? ty).map (·.size) = some cells.size) : (results fn tmps).run P w = .ok (.tuple #[.agg cells, tmps.getD u undef, tmps.getD v undef]) w := by
  have hp' : tmps[p]?.getD undef = .pointer (some ⟨g, 0, none⟩) := by simpa using hp
  simp [results, h, hp', asAddr, hA.load ty d hu hd hi]
end

/-! ### Rows -/
section
variable {α : Type} {k : Nat} {enc : α → Array Value}
def flat (enc : α → Array Value) (S : List α) : List Value := S.flatMap fun s => (enc s).toList
theorem flat_length (hk : ∀ s, (enc s).size = k) : ∀ S : List α, (flat enc S).length = S.length * k
  | [] => by simp [flat]
  | s :: S => by
    have := flat_length hk S
    simp only [flat, List.flatMap_cons, List.length_append, Array.length_toList, hk, List.length_cons] at this ⊢
    rw [this, Nat.add_mul]; omega
theorem flat_get (hk : ∀ s, (enc s).size = k) : ∀ (S : List α) (i : Nat) (h : i < S.length) (j : Nat), j < k → (flat enc S)[i * k + j]? = (enc S[i])[j]?
  | s :: S, 0, _, j, hj => by
    simp only [flat, List.flatMap_cons, Nat.zero_mul, Nat.zero_add, List.getElem_cons_zero]
    rw [List.getElem?_append_left (by simpa [hk] using hj)]
    simp
  | s :: S, i + 1, h, j, hj => by
    have ih := flat_get hk S i (by simpa using h) j hj
    simp only [flat, List.flatMap_cons, List.getElem_cons_succ] at ih ⊢
    rw [List.getElem?_append_right (by simp only [Array.length_toList, hk]; rw [Nat.add_mul]; omega)]
    simp only [Array.length_toList, hk]
    rw [show (i + 1) * k + j - k = i * k + j by rw [Nat.add_mul]; omega]
    exact ih

/-- The elements S lie in block g, one behind the other, k cells each. -/
def Row (w : World) (g : Nat) (t : TypeId) (k : Nat) (enc : α → Array Value) (S : List α) : Prop :=
  ∃ cur, w.heap[g]? = some (.cells cur t (0, 0)) ∧ S.length * k ≤ cur.size ∧ ∀ (i : Nat) (h : i < S.length) (j : Nat), j < k → cur[i * k + j]? = (enc S[i])[j]?
variable {w w' : World} {g : Nat} {t : TypeId} {S : List α}
theorem Row.of_own {base n cap : Nat} (hk : ∀ s, (enc s).size = k) (h : w.ownsRow base t k (.slice (some ⟨g, 0, none⟩) n cap) n (flat enc S)) (hn : n = S.length) : Row w g t k enc S := by
  subst hn
  obtain ⟨_, h2⟩ := h
  rcases h2 with ⟨h2, _⟩ | ⟨g', cap', cur, hv, _, hg, hcap, _, hsz, htake⟩
  · cases h2
  · cases hv
    refine ⟨cur, hg, by rw [hsz]; exact Nat.mul_le_mul_right _ hcap, fun i hi j hj => ?_⟩
    have h3 := flat_get hk S i hi j hj
    rw [← htake, List.getElem?_take] at h3
    have hlt : i * k + j < S.length * k := by
      have := Nat.mul_le_mul_right k (show i + 1 ≤ S.length from hi)
      rw [Nat.add_mul] at this; omega
    rw [if_pos hlt] at h3
    simpa using h3
theorem Row.lt (h : Row w g t k enc S) : g < w.heap.size := by
  obtain ⟨cur, hg, _⟩ := h
  exact (Array.getElem?_eq_some_iff.1 hg).1
theorem Row.keep {T : List Nat} (h : Row w g t k enc S) (hk : Keep T w w') (hn : g ∉ T) : Row w' g t k enc S := by
  obtain ⟨cur, hg, r⟩ := h
  exact ⟨cur, hk.heap hg hn, r⟩
theorem Row.ext (h : Row w g t k enc S) (hk : Ext w w') : Row w' g t k enc S := h.keep hk (by simp)
theorem Row.below {N : Nat} {W : World} (h : Row W g t k enc S) (hk : Below N W w') (hn : g < N) : Row w' g t k enc S := by
  obtain ⟨cur, hg, r⟩ := h
  exact ⟨cur, by rw [hk.block g hn]; exact hg, r⟩
theorem Row.at (h : Row w g t k enc S) (hk : ∀ s, (enc s).size = k) {i : Nat} (hi : i < S.length) : At w g (i * k) (enc S[i]) := by
  obtain ⟨cur, hg, hs, hc⟩ := h
  refine ⟨cur, t, hg, ?_, fun j hj => hc i hi j (by rw [hk] at hj; exact hj)⟩
  rw [hk]
  have := Nat.mul_le_mul_right k (show i + 1 ≤ S.length from hi)
  rw [Nat.add_mul] at this; omega
theorem Row.cell (h : Row w g t k enc S) {i : Nat} (hi : i < S.length) {j : Nat} (hj : j < k) {v : Value} (hv : (enc S[i])[j]? = some v) : w.cell? ⟨g, i * k + j, none⟩ = some v := by
  obtain ⟨cur, hg, _, hc⟩ := h
  rw [cell_of_row w g _ cur t _ hg, hc i hi j hj, hv]
theorem Row.frozen (h : Row w g t k enc S) (j : Nat) : w.frozen? ⟨g, j, none⟩ = false := by
  obtain ⟨cur, hg, _⟩ := h
  exact frozen_of_row w g j cur t hg
theorem mul_lt_of {i n k j : Nat} (h : i < n) (hj : j < k) : i * k + j < n * k := by
  have := Nat.mul_le_mul_right k (show i + 1 ≤ n from h)
  rw [Nat.add_mul] at this; omega
theorem mul_ne {i i' k j j' : Nat} (hne : i ≠ i') (hj : j < k) (hj' : j' < k) : i * k + j ≠ i' * k + j' := by
  intro h
  rcases Nat.lt_or_gt_of_ne hne with h1 | h1
  · have := Nat.mul_le_mul_right k (show i + 1 ≤ i' from h1); rw [Nat.add_mul] at this; omega
  · have := Nat.mul_le_mul_right k (show i' + 1 ≤ i from h1); rw [Nat.add_mul] at this; omega
theorem Row.put (h : Row w g t k enc S) (hk : ∀ s, (enc s).size = k) {i : Nat} (hi : i < S.length) (s : α) : Row (wput w g (i * k) (enc s)) g t k enc (S.set i s) := by
  obtain ⟨cur, hg, hs, hc⟩ := h
  have hfit : i * k + (enc s).size ≤ cur.size := by
    rw [hk]
    have := Nat.mul_le_mul_right k (show i + 1 ≤ S.length from hi)
    rw [Nat.add_mul] at this; omega
  refine ⟨_, wput_heap hg, by rw [spl_size hfit]; simpa using hs, fun i' hi' j hj => ?_⟩
  have hi2 : i' < S.length := by simpa using hi'
  by_cases hii : i = i'
  · subst hii
    rw [spl_in hfit (by rw [hk]; exact hj)]
    simp
  · have hout : i' * k + j < i * k ∨ i * k + (enc s).size ≤ i' * k + j := by
      rw [hk]
      rcases Nat.lt_or_gt_of_ne hii with h1 | h1
      · right; have := Nat.mul_le_mul_right k (show i + 1 ≤ i' from h1); rw [Nat.add_mul] at this; omega
      · left; have := Nat.mul_le_mul_right k (show i' + 1 ≤ i from h1); rw [Nat.add_mul] at this; omega
    rw [spl_out hfit hout, hc i' hi2 j hj, List.getElem_set_ne hii]
/-- A store into one cell of a row. -/
theorem Row.set (h : Row w g t k enc S) (hk : ∀ s, (enc s).size = k) {i : Nat} (hi : i < S.length) {j : Nat} (hj : j < k) {v : Value} {s : α} (hs : enc s = (enc S[i]).setIfInBounds j v) : Row (w.setCell ⟨g, i * k + j, none⟩ v) g t k enc (S.set i s) := by
  obtain ⟨cur, hg, hsz, hc⟩ := h
  have hlt : i * k + j < cur.size := Nat.lt_of_lt_of_le (mul_lt_of hi hj) hsz
  refine ⟨_, heap_setCell_same w g (i * k + j) cur t v hg, by simpa using hsz, fun i' hi' j' hj' => ?_⟩
  have hi2 : i' < S.length := by simpa using hi'
  by_cases hii : i = i'
  · subst hii
    rw [List.getElem_set_self, hs]
    by_cases hjj : j = j'
    · subst hjj
      rw [Array.getElem?_setIfInBounds_self_of_lt hlt, Array.getElem?_setIfInBounds_self_of_lt (by rw [hk]; exact hj)]
    · rw [Array.getElem?_setIfInBounds_ne (by omega), Array.getElem?_setIfInBounds_ne hjj, hc i hi2 j' hj']
  · rw [Array.getElem?_setIfInBounds_ne (mul_ne hii hj hj'), hc i' hi2 j' hj', List.getElem_set_ne hii]
end
end Go.Proofs.Ytalpjipopipncaa
