/- A region that draws its order: quiet operations, at most one that makes a block, then a forced tail: one walk in the order of the text serves every order. Conditions: none but what each theorem states. -/
import Derived.Test.YtalpjipopipncaaRows
import Derived.WalkKit
import Derived.StillTail
namespace Go.Proofs.Ytalpjipopipncaa
open Go Go.RowKit

/-- Of the old blocks only those of S may have turned. -/
structure Keep (S : List Nat) (w w' : World) : Prop where
  os : w'.os = w.os
  tape : w'.tape = w.tape
  output : w'.output = w.output
  size : w.heap.size ≤ w'.heap.size
  block : ∀ k, k < w.heap.size → k ∉ S → w'.heap[k]? = w.heap[k]?

def Ext (w w' : World) : Prop := Keep [] w w'

theorem Keep.refl (S : List Nat) (w : World) : Keep S w w := ⟨rfl, rfl, rfl, Nat.le_refl _, fun _ _ _ => rfl⟩
theorem Keep.trans {S T : List Nat} {a b c : World} (h : Keep S a b) (k : Keep T b c) (hST : ∀ i, i ∈ T → i < a.heap.size → i ∈ S) : Keep S a c :=
  ⟨k.os.trans h.os, k.tape.trans h.tape, k.output.trans h.output, Nat.le_trans h.size k.size, fun i hi hn =>
    (k.block i (Nat.lt_of_lt_of_le hi h.size) (fun ht => hn (hST i ht hi))).trans (h.block i hi hn)⟩
theorem Keep.mono {S T : List Nat} {a b : World} (h : Keep S a b) (hST : ∀ i, i ∈ S → i ∈ T) : Keep T a b :=
  ⟨h.os, h.tape, h.output, h.size, fun i hi hn => h.block i hi (fun hs => hn (hST i hs))⟩
theorem Keep.transE {S : List Nat} {a b c : World} (h : Keep S a b) (k : Ext b c) : Keep S a c := Keep.trans h k (fun _ hi => by cases hi)
theorem Keep.drew {S : List Nat} {a w : World} (h : Keep S a w) : Keep S a w.drew := ⟨h.os, h.tape, h.output, h.size, h.block⟩
theorem Keep.alloc {S : List Nat} {a w : World} (h : Keep S a w) (o : Obj) : Keep S a (w.alloc o) :=
  h.trans (T := S) ⟨rfl, rfl, rfl, by simp, fun k hk _ => Below.heap_alloc _ _ _ hk⟩ (fun _ hi _ => hi)
theorem Keep.setCell {S : List Nat} {a w : World} (h : Keep S a w) {p : Addr} (hp : p.block ∈ S ∨ a.heap.size ≤ p.block) (u : Value) : Keep S a (w.setCell p u) :=
  ⟨h.os, h.tape, h.output, by simpa [World.setCell] using h.size, fun k hk hn => (Below.heap_setCell _ _ _ _ (by
    rintro rfl
    rcases hp with hp | hp
    · exact hn hp
    · omega)).trans (h.block k hk hn)⟩
theorem Ext.refl (w : World) : Ext w w := Keep.refl _ _
theorem Ext.trans {a b c : World} (h : Ext a b) (k : Ext b c) : Ext a c := Keep.transE h k
theorem Ext.block {w w' : World} (h : Ext w w') {k : Nat} (hk : k < w.heap.size) : w'.heap[k]? = w.heap[k]? := Keep.block h k hk (by simp)
theorem Ext.heap {w w' : World} (h : Ext w w') {k : Nat} {o : Obj} (ho : w.heap[k]? = some o) : w'.heap[k]? = some o := by
  rw [h.block (Array.getElem?_eq_some_iff.1 ho).1]; exact ho
theorem Keep.heap {S : List Nat} {w w' : World} (h : Keep S w w') {k : Nat} {o : Obj} (ho : w.heap[k]? = some o) (hn : k ∉ S) : w'.heap[k]? = some o := by
  rw [h.block k (Array.getElem?_eq_some_iff.1 ho).1 hn]; exact ho
theorem Ext.below {w w' : World} (h : Ext w w') : Below w.heap.size w w' := ⟨Keep.os h, Keep.tape h, Keep.output h, Keep.size h, fun _ hk => h.block hk⟩
theorem Ext.of_below {w w' : World} (h : Below w.heap.size w w') : Ext w w' := ⟨h.os, h.tape, h.output, h.size, fun k hk _ => h.block k hk⟩
theorem Ext.drew (w : World) : Ext w w.drew := (Keep.refl [] w).drew
theorem Ext.alloc (w : World) (o : Obj) : Ext w (w.alloc o) := (Keep.refl [] w).alloc o
theorem Ext.cell {w w' : World} (h : Ext w w') {p : Addr} {v : Value} (hc : w.cell? p = some v) : w'.cell? p = some v := by
  have hlt : p.block < w.heap.size := block_lt_of_cell hc
  rw [World.cell?_of_block (w := w) (h.block hlt)]; exact hc

section
variable {P : Program} {ops : Array Oper} {md : Region.Mode}

/-- What is asked of an operation that has been run: the value v, and a world that only goes on. -/
def qUpon (P : Program) (w : World) (v : Value) : Result Next → Prop
  | .ok (.value u) w' => u = v ∧ Ext w w'
  | .ok .skip w' => v = undef ∧ Ext w w'
  | .ok (.enter f args) w' => w' = w ∧ Calls P f args w (fun e w'' => e = .returned v ∧ Ext w w'')
  | _ => False
def qAt (P : Program) (o : Oper) (a : Act) (w : World) (v : Value) : Prop := qUpon P w v ((execOp a.eval o).run P w)

/-- The head, in the order of the text; w: the world that the region is entered in. -/
def wpHead (P : Program) (ops : Array Oper) (w : World) (Q : Act → Prop) : List Oper → Act → Prop
  | [], a => Q a
  | o :: rest, a => if Region.wanted o (yielded ops a.tmps) then ∃ v, (∀ w', Ext w w' → qAt P o a w' v) ∧ wpHead P ops w Q rest (a.put o.dst v)
      else wpHead P ops w Q rest (a.put o.dst undef)

theorem qAt_wp {o : Oper} {a : Act} {K : Act → World → Prop} {Q' : Exit → Act → World → Prop} {w : World} {v : Value}
    (h : ∀ w', Ext w w' → K (a.put o.dst v) w') (hh : qAt P o a w v) : o.wp P a w K Q' := by
  unfold qAt at hh
  unfold Oper.wp
  generalize (execOp a.eval o).run P w = r at *
  cases r with
  | ok n w' =>
    cases n <;> simp only [qUpon] at hh <;> simp only [Oper.upon]
    case value u => obtain ⟨e1, e2⟩ := hh; rw [e1]; exact h _ e2
    case skip => obtain ⟨e1, e2⟩ := hh; rw [← e1]; exact h _ e2
    case enter f args =>
      obtain ⟨e1, hc⟩ := hh
      rw [e1]
      exact hc.mono fun e w'' ⟨he, hw''⟩ => by subst he; exact h _ hw''
  | halt x w' => simp only [qUpon] at hh

/-- In state a, in every world from w on, o leaves v. -/
def YieldsE (P : Program) (ops : Array Oper) (o : Oper) (v : Value) (a : Act) (w : World) : Prop :=
  (Region.wanted o (yielded ops a.tmps) = true ∧ ∀ w', Ext w w' → qAt P o a w' v) ∨ (Region.wanted o (yielded ops a.tmps) = false ∧ v = undef)

theorem YieldsE.mono {o : Oper} {v : Value} {a : Act} {w w' : World} (h : YieldsE P ops o v a w) (he : Ext w w') : YieldsE P ops o v a w' :=
  h.imp (fun ⟨h1, h2⟩ => ⟨h1, fun _ h' => h2 _ (he.trans h')⟩) id

theorem YieldsE.put {oi oj : Oper} {v : Value} {a : Act} {w : World} (hap : oi.apart ops oj = true) (hsi : ∀ cs b, oi.op ≠ .select cs b) (h : YieldsE P ops oi v a w) (u : Value) :
    YieldsE P ops oi v (a.put oj.dst u) w := by
  obtain ⟨_, _, h3⟩ := Oper.apart_spec hap
  unfold YieldsE qAt at *
  rw [execOp_put oi hsi a oj.dst u h3, wanted_put oi a oj.dst u h3]
  exact h

/-- Operation i comes up. -/
def qOpE (P : Program) (ops : Array Oper) (i : Nat) (K : Act → World → Prop) (a : Act) (w : World) : Prop :=
  ∃ o v, ops[i]? = some o ∧ YieldsE P ops o v a w ∧ K (a.put o.dst v) w

/-- Operation i makes a block. -/
def fOpE (P : Program) (ops : Array Oper) (i : Nat) (K : Act → World → Prop) (a : Act) (w : World) : Prop :=
  ∃ o, ops[i]? = some o ∧ o.guard = none ∧ ∀ w', Ext w w' → ∃ v w1, (execOp a.eval o).run P w' = .ok (.value v) w1 ∧ Ext w' w1 ∧ K (a.put o.dst v) w1

/-- f operations of the head are left; nothing else may come up. -/
def wpF (P : Program) (md : Region.Mode) (ops : Array Oper) (n : Nat) (L : Array Bool → Act → World → Prop) : Nat → Array Bool → Act → World → Prop
  | 0, listed, a, w => L listed a w
  | f + 1, listed, a, w => Region.ready md ops listed ≠ [] ∧ ∀ i ∈ Region.ready md ops listed, i < n ∧ qOpE P ops i (wpF P md ops n L f (listed.setIfInBounds i true)) a w

/-- f operations of the head are left, and the one that makes a block (m). -/
def wpG (P : Program) (md : Region.Mode) (ops : Array Oper) (n m : Nat) (L G : Array Bool → Act → World → Prop) : Nat → Array Bool → Act → World → Prop
  | 0, listed, a, w => G listed a w
  | f + 1, listed, a, w => Region.ready md ops listed ≠ [] ∧ ∀ i ∈ Region.ready md ops listed,
      (i < n ∧ qOpE P ops i (wpG P md ops n m L G f (listed.setIfInBounds i true)) a w) ∨ (i = m ∧ fOpE P ops m (wpF P md ops n L (f + 1) (listed.setIfInBounds m true)) a w)

def MonoE (K : Act → World → Prop) : Prop := ∀ a w w', K a w → Ext w w' → K a w'

theorem qOpE_mono {i : Nat} {K : Act → World → Prop} (hK : MonoE K) : MonoE (qOpE P ops i K) := by
  rintro a w w' ⟨o, v, ho, hy, hk⟩ he
  exact ⟨o, v, ho, hy.mono he, hK _ _ _ hk he⟩
theorem fOpE_mono {i : Nat} {K : Act → World → Prop} : MonoE (fOpE P ops i K) := by
  rintro a w w' ⟨o, ho, hg, hk⟩ he
  exact ⟨o, ho, hg, fun w2 h2 => hk w2 (he.trans h2)⟩
theorem qOpE_imp {i : Nat} {K K' : Act → World → Prop} {a : Act} {w : World} (h : ∀ a, K a w → K' a w) (hh : qOpE P ops i K a w) : qOpE P ops i K' a w := by
  obtain ⟨o, v, ho, hy, hk⟩ := hh
  exact ⟨o, v, ho, hy, h _ hk⟩
theorem fOpE_imp {i : Nat} {K K' : Act → World → Prop} {a : Act} {w : World} (h : ∀ a w', Ext w w' → K a w' → K' a w') (hh : fOpE P ops i K a w) : fOpE P ops i K' a w := by
  obtain ⟨o, ho, hg, hk⟩ := hh
  refine ⟨o, ho, hg, fun w2 h2 => ?_⟩
  obtain ⟨v, w1, h3, h4, h5⟩ := hk w2 h2
  exact ⟨v, w1, h3, h4, h _ _ (h2.trans h4) h5⟩

theorem wpF_mono {n : Nat} {L : Array Bool → Act → World → Prop} (hL : ∀ l, MonoE (L l)) : ∀ (f : Nat) (listed : Array Bool), MonoE (wpF P md ops n L f listed)
  | 0, listed => hL listed
  | f + 1, _ => fun a w w' h he => ⟨h.1, fun i hi => ⟨(h.2 i hi).1, qOpE_mono (wpF_mono hL f _) a w w' (h.2 i hi).2 he⟩⟩

theorem apart_run {oi oj : Oper} {v : Value} {a : Act} (hap : oi.apart ops oj = true) (hsj : ∀ cs b, oj.op ≠ .select cs b) : execOp (a.put oi.dst v).eval oj = execOp a.eval oj :=
  execOp_put oj hsj a oi.dst v (Oper.apart_spec hap).1
theorem apart_wanted {oi oj : Oper} {v : Value} {a : Act} (hap : oi.apart ops oj = true) : Region.wanted oj (yielded ops (a.put oi.dst v).tmps) = Region.wanted oj (yielded ops a.tmps) :=
  wanted_put oj a oi.dst v (Oper.apart_spec hap).1

/-- oj comes up behind oi: it may as well come up before. -/
theorem qOpE_put {j : Nat} {oi oj : Oper} {v : Value} {K : Act → World → Prop} {a : Act} {w : World} (hj : ops[j]? = some oj) (hap : oi.apart ops oj = true)
    (hsi : ∀ cs b, oi.op ≠ .select cs b) (hsj : ∀ cs b, oj.op ≠ .select cs b) (hy : YieldsE P ops oi v a w) (h : qOpE P ops j K (a.put oi.dst v) w) :
    qOpE P ops j (fun a' w' => YieldsE P ops oi v a' w' ∧ K (a'.put oi.dst v) w') a w := by
  obtain ⟨o, u, ho, hu, hk⟩ := h
  obtain rfl : oj = o := Option.some.inj (hj.symm.trans ho)
  refine ⟨oj, u, hj, ?_, hy.put hap hsi u, ?_⟩
  · unfold YieldsE qAt at *
    rw [apart_run hap hsj, apart_wanted hap] at hu
    exact hu
  · rw [← Act.put_comm a v u (Oper.apart_spec hap).2.1]; exact hk
theorem fOpE_put {j : Nat} {oi oj : Oper} {v : Value} {K : Act → World → Prop} {a : Act} {w : World} (hj : ops[j]? = some oj) (hap : oi.apart ops oj = true)
    (hsi : ∀ cs b, oi.op ≠ .select cs b) (hsj : ∀ cs b, oj.op ≠ .select cs b) (hy : YieldsE P ops oi v a w) (h : fOpE P ops j K (a.put oi.dst v) w) :
    fOpE P ops j (fun a' w' => YieldsE P ops oi v a' w' ∧ K (a'.put oi.dst v) w') a w := by
  obtain ⟨o, ho, hg, hk⟩ := h
  obtain rfl : oj = o := Option.some.inj (hj.symm.trans ho)
  refine ⟨oj, hj, hg, fun w2 h2 => ?_⟩
  obtain ⟨u, w1, h3, h4, h5⟩ := hk w2 h2
  rw [apart_run hap hsj] at h3
  refine ⟨u, w1, h3, h4, (hy.mono (h2.trans h4)).put hap hsi u, ?_⟩
  rw [← Act.put_comm a v u (Oper.apart_spec hap).2.1]; exact h5

/-- Whoever is not ready ahead of i's turn waits for it. -/
theorem ready_not {i j : Nat} {listed : Array Bool} (hi : i ∈ Region.ready md ops listed) (hj : j ∈ Region.ready md ops listed) :
    ∃ oj, ops[j]? = some oj ∧ listed.getD j true = false ∧ ∀ e ∈ oj.after, Region.binds md e = true → e.on ≠ i := by
  obtain ⟨hjun, oj, hoj, hall⟩ := mem_ready.1 hj
  refine ⟨oj, hoj, hjun, fun e he hb heq => ?_⟩
  have h1 := hall e he hb
  have h0 := (mem_ready.1 hi).1
  rw [heq] at h1
  rcases Nat.lt_or_ge i listed.size with h' | h'
  · simp [h'] at h0 h1; rw [h0] at h1; cases h1
  · simp [Array.getElem?_eq_none h'] at h1

def FreeAt (md : Region.Mode) (ops : Array Oper) (i : Nat) (oi : Oper) (listed : Array Bool) : Prop :=
  ∀ j oj, ops[j]? = some oj → j ≠ i → listed.getD j true = false → (∀ e ∈ oj.after, Region.binds md e = true → e.on ≠ i) → oi.apart ops oj = true
theorem FreeAt.set {i j : Nat} {oi : Oper} {listed : Array Bool} (h : FreeAt md ops i oi listed) (hj : listed.getD j true = false) : FreeAt md ops i oi (listed.setIfInBounds j true) :=
  fun k ok hk hki hun hno => h k ok hk hki (by
    by_cases hjk : j = k
    · subst hjk; exact hj
    · rw [getD_set_ne true hjk] at hun; exact hun) hno

theorem wpF_first {n i : Nat} {oi : Oper} {v : Value} {L : Array Bool → Act → World → Prop} (hi : ops[i]? = some oi) (hsel : ∀ (j : Nat) (o : Oper) cs b, ops[j]? = some o → o.op ≠ .select cs b)
    (hin : i < n) (hdone : ∀ listed a w, L listed a w → ∀ j ∈ Region.ready md ops listed, n ≤ j) (inv : Array Bool → Prop) (hset : ∀ l j, inv l → j ∈ Region.ready md ops l → inv (l.setIfInBounds j true))
    (hw : ∀ l, inv l → ∀ i, i < n → l.getD i true = false → ∀ t, n ≤ t → t ∉ Region.ready md ops l) :
    ∀ (f : Nat) (listed : Array Bool) (a : Act) (w : World), inv listed → FreeAt md ops i oi listed → i ∈ Region.ready md ops listed → YieldsE P ops oi v a w →
      wpF P md ops n L f (listed.setIfInBounds i true) (a.put oi.dst v) w → wpF P md ops n L (f + 1) listed a w := by
  intro f
  induction f with
  | zero =>
    intro listed a w hv hfree hr hy H
    refine ⟨fun h => (by rw [h] at hr; cases hr), fun j hj => ?_⟩
    have hjn : j < n := by
      rcases Nat.lt_or_ge j n with h | h
      · exact h
      · exact absurd hj (hw _ hv i hin (mem_ready.1 hr).1 j h)
    refine ⟨hjn, ?_⟩
    by_cases hji : j = i
    · subst hji; exact ⟨oi, v, hi, hy, H⟩
    · have := hdone _ _ _ H j (ready_mono hj hji)
      omega
  | succ f ih =>
    intro listed a w hv hfree hr hy H
    refine ⟨fun h => (by rw [h] at hr; cases hr), fun j hj => ?_⟩
    have hjn : j < n := by
      rcases Nat.lt_or_ge j n with h | h
      · exact h
      · exact absurd hj (hw _ hv i hin (mem_ready.1 hr).1 j h)
    refine ⟨hjn, ?_⟩
    by_cases hji : j = i
    · subst hji; exact ⟨oi, v, hi, hy, H⟩
    · have h1 := (H.2 j (ready_mono hj hji)).2
      obtain ⟨oj, hoj, hjun, hnot⟩ := ready_not hr hj
      have h2 := qOpE_put hoj (hfree j oj hoj hji hjun hnot) (fun cs b => hsel i oi cs b hi) (fun cs b => hsel j oj cs b hoj) hy h1
      refine qOpE_imp (fun a' h3 => ih (listed.setIfInBounds j true) a' w (hset _ _ hv hj) (hfree.set hjun) (ready_mono hr (Ne.symm hji)) h3.1 ?_) h2
      rw [Array.setIfInBounds_comm _ _ hji]
      exact h3.2

theorem wpG_first {n m i : Nat} {oi : Oper} {v : Value} {L G : Array Bool → Act → World → Prop} (hi : ops[i]? = some oi) (hsel : ∀ (j : Nat) (o : Oper) cs b, ops[j]? = some o → o.op ≠ .select cs b)
    (hin : i < n) (hG : ∀ l a w, G l a w → (∀ j ∈ Region.ready md ops l, n ≤ j) ∧ fOpE P ops m (L (l.setIfInBounds m true)) a w) (hdone : ∀ listed a w, L listed a w → ∀ j ∈ Region.ready md ops listed, n ≤ j)
    (inv : Array Bool → Prop) (hset : ∀ l j, inv l → j ∈ Region.ready md ops l → inv (l.setIfInBounds j true))
    (hw : ∀ l, inv l → ∀ i, i < n → l.getD i true = false → ∀ t, n ≤ t → t ∈ Region.ready md ops l → t = m) :
    ∀ (f : Nat) (listed : Array Bool) (a : Act) (w : World), inv listed → FreeAt md ops i oi listed → i ∈ Region.ready md ops listed → YieldsE P ops oi v a w →
      wpG P md ops n m L G f (listed.setIfInBounds i true) (a.put oi.dst v) w → wpG P md ops n m L G (f + 1) listed a w := by
  have hwF : ∀ l, (inv l ∧ l.getD m true = true) → ∀ i, i < n → l.getD i true = false → ∀ t, n ≤ t → t ∉ Region.ready md ops l := by
    rintro l ⟨h1, h2⟩ i hi hun t ht hr
    obtain rfl := hw l h1 i hi hun t ht hr
    rw [(mem_ready.1 hr).1] at h2
    cases h2
  have hsetF : ∀ (l : Array Bool) j, (inv l ∧ l.getD m true = true) → j ∈ Region.ready md ops l → (inv (l.setIfInBounds j true) ∧ (l.setIfInBounds j true).getD m true = true) := by
    rintro l j ⟨h1, h2⟩ hj
    refine ⟨hset l j h1 hj, ?_⟩
    by_cases hjm : j = m
    · subst hjm
      rcases Nat.lt_or_ge j l.size with h | h
      · simp [h]
      · simp
    · rw [getD_set_ne true hjm]; exact h2
  have hmset : ∀ l : Array Bool, (l.setIfInBounds m true).getD m true = true := by
    intro l
    rcases Nat.lt_or_ge m l.size with h | h
    · simp [h]
    · simp
  intro f
  induction f with
  | zero =>
    intro listed a w hv hfree hr hy H
    refine ⟨fun h => (by rw [h] at hr; cases hr), fun j hj => ?_⟩
    by_cases hji : j = i
    · subst hji; exact .inl ⟨hin, oi, v, hi, hy, H⟩
    · rcases Nat.lt_or_ge j n with h | h
      · have := (hG _ _ _ H).1 j (ready_mono hj hji)
        omega
      · obtain rfl := hw _ hv i hin (mem_ready.1 hr).1 j h hj
        obtain ⟨oj, hoj, hjun, hnot⟩ := ready_not hr hj
        refine .inr ⟨rfl, ?_⟩
        have h2 := fOpE_put hoj (hfree j oj hoj hji hjun hnot) (fun cs b => hsel i oi cs b hi) (fun cs b => hsel j oj cs b hoj) hy (hG _ _ _ H).2
        refine fOpE_imp (fun a' w' _ h3 => ?_) h2
        refine wpF_first hi hsel hin hdone _ hsetF hwF 0 _ a' w' ⟨hset _ _ hv hj, hmset _⟩ (hfree.set hjun) (ready_mono hr (Ne.symm hji)) h3.1 ?_
        rw [Array.setIfInBounds_comm _ _ hji]
        exact h3.2
  | succ f ih =>
    intro listed a w hv hfree hr hy H
    refine ⟨fun h => (by rw [h] at hr; cases hr), fun j hj => ?_⟩
    by_cases hji : j = i
    · subst hji; exact .inl ⟨hin, oi, v, hi, hy, H⟩
    · obtain ⟨oj, hoj, hjun, hnot⟩ := ready_not hr hj
      rcases H.2 j (ready_mono hj hji) with ⟨hjn, h1⟩ | ⟨rfl, h1⟩
      · have h2 := qOpE_put hoj (hfree j oj hoj hji hjun hnot) (fun cs b => hsel i oi cs b hi) (fun cs b => hsel j oj cs b hoj) hy h1
        refine .inl ⟨hjn, qOpE_imp (fun a' h3 => ih (listed.setIfInBounds j true) a' w (hset _ _ hv hj) (hfree.set hjun) (ready_mono hr (Ne.symm hji)) h3.1 ?_) h2⟩
        rw [Array.setIfInBounds_comm _ _ hji]
        exact h3.2
      · have h2 := fOpE_put hoj (hfree j oj hoj hji hjun hnot) (fun cs b => hsel i oi cs b hi) (fun cs b => hsel j oj cs b hoj) hy h1
        refine .inr ⟨rfl, fOpE_imp (fun a' w' _ h3 => ?_) h2⟩
        refine wpF_first hi hsel hin hdone _ hsetF hwF (f + 1) _ a' w' ⟨hset _ _ hv hj, hmset _⟩ (hfree.set hjun) (ready_mono hr (Ne.symm hji)) h3.1 ?_
        rw [Array.setIfInBounds_comm _ _ hji]
        exact h3.2

/-! ### Down to every order -/
theorem wpOp_of_qOpE {i : Nat} {K : Act → World → Prop} {K' : Act → World → Prop} {Q : Exit → Act → World → Prop} {a : Act} {w : World} (hK : ∀ a w', K a w → Ext w w' → K' a w') (h : qOpE P ops i K a w) : wpOp P ops Q i K' a w := by
  obtain ⟨o, v, ho, hy, hk⟩ := h
  unfold wpOp
  simp only [ho]
  rcases hy with ⟨hw, hq⟩ | ⟨hw, rfl⟩
  · rw [if_pos hw]; exact .inl (qAt_wp (fun w' h' => hK _ _ hk h') (hq w (Ext.refl w)))
  · rw [if_neg (by simp [hw])]; exact hK _ _ hk (Ext.refl w)
theorem wpOp_of_fOpE {i : Nat} {K K' : Act → World → Prop} {Q : Exit → Act → World → Prop} {a : Act} {w : World} (hK : ∀ a w', K a w' → K' a w') (h : fOpE P ops i K a w) : wpOp P ops Q i K' a w := by
  obtain ⟨o, ho, hg, hk⟩ := h
  obtain ⟨v, w1, h3, _, h5⟩ := hk w (Ext.refl w)
  unfold wpOp
  simp only [ho]
  rw [if_pos (by simp [Region.wanted, hg])]
  refine .inl ?_
  unfold Oper.wp
  rw [h3]
  exact hK _ _ h5
theorem wpAny_of_wpF {n g : Nat} {L : Array Bool → Act → World → Prop} {Q : Exit → Act → World → Prop} (hm : ∀ l, MonoE (L l)) (hL : ∀ listed a w, L listed a w → wpAny P md ops Q g listed a w) :
    ∀ (f : Nat) (listed : Array Bool) (a : Act) (w : World), wpF P md ops n L f listed a w → wpAny P md ops Q (f + g) listed a w
  | 0, listed, a, w, h => by rw [Nat.zero_add]; exact hL _ _ _ h
  | f + 1, listed, a, w, h => by
    rw [show f + 1 + g = (f + g) + 1 by omega]
    exact ⟨fun h0 => absurd h0 h.1, fun i hi => wpOp_of_qOpE (fun a' w' h' he => wpAny_of_wpF hm hL f _ a' w' (wpF_mono hm f _ _ _ _ h' he)) (h.2 i hi).2⟩
theorem wpG_mono {n m : Nat} {L G : Array Bool → Act → World → Prop} (hG : ∀ l, MonoE (G l)) : ∀ (f : Nat) (listed : Array Bool), MonoE (wpG P md ops n m L G f listed)
  | 0, _ => hG _
  | f + 1, _ => fun a w w' h he => ⟨h.1, fun i hi => (h.2 i hi).imp (fun ⟨h1, h2⟩ => ⟨h1, qOpE_mono (wpG_mono hG f _) a w w' h2 he⟩) (fun ⟨h1, h2⟩ => ⟨h1, fOpE_mono a w w' h2 he⟩)⟩
theorem wpAny_of_wpG {n m g : Nat} {L G : Array Bool → Act → World → Prop} {Q : Exit → Act → World → Prop} (hm : ∀ l, MonoE (L l)) (hG : ∀ l, MonoE (G l)) (hL : ∀ listed a w, L listed a w → wpAny P md ops Q g listed a w)
    (h0 : ∀ listed a w, G listed a w → wpAny P md ops Q (g + 1) listed a w) :
    ∀ (f : Nat) (listed : Array Bool) (a : Act) (w : World), wpG P md ops n m L G f listed a w → wpAny P md ops Q (f + (g + 1)) listed a w
  | 0, listed, a, w, h => by rw [Nat.zero_add]; exact h0 _ _ _ h
  | f + 1, listed, a, w, h => by
    rw [show f + 1 + (g + 1) = (f + (g + 1)) + 1 by omega]
    refine ⟨fun h1 => absurd h1 h.1, fun i hi => ?_⟩
    rcases h.2 i hi with ⟨_, h2⟩ | ⟨rfl, h2⟩
    · exact wpOp_of_qOpE (fun a' w' h' he => wpAny_of_wpG hm hG hL h0 f _ a' w' (wpG_mono hG f _ _ _ _ h' he)) h2
    · refine wpOp_of_fOpE (fun a' w' h' => ?_) h2
      have := wpAny_of_wpF (Q := Q) hm hL (f + 1) _ a' w' h'
      rw [show f + (g + 1) = f + 1 + g by omega]; exact this

/-! ### Behind the head: operations that look at no memory, then a forced row -/
/-- Operations that look at no memory, in the order of the text. -/
def wpPure (P : Program) (ops : Array Oper) (Q : Act → Prop) : List Oper → Act → Prop
  | [], a => Q a
  | o :: rest, a => ∃ v, Yields P ops o v a ∧ wpPure P ops Q rest (a.put o.dst v)
theorem wpPure_imp {Q Q' : Act → Prop} (h : ∀ a, Q a → Q' a) : ∀ (l : List Oper) (a : Act), wpPure P ops Q l a → wpPure P ops Q' l a
  | [], a, hh => h a hh
  | _ :: l, _, ⟨v, h1, h2⟩ => ⟨v, h1, wpPure_imp h l _ h2⟩

theorem fOpE_pure {m : Nat} {om : Oper} (hm : ops[m]? = some om) (hsm : ∀ cs b, om.op ≠ .select cs b) {K : Act → World → Prop} {w : World} :
    ∀ (l : List Oper) (a : Act), (∀ o ∈ l, o.apart ops om = true ∧ ∀ cs b, o.op ≠ .select cs b) → wpPure P ops (fun a' => fOpE P ops m K a' w) l a →
      fOpE P ops m (fun a1 w1 => wpPure P ops (fun a' => K a' w1) l a1) a w
  | [], a, _, h => h
  | o :: l, a, hap, ⟨v, hy, hr⟩ => by
    have h1 := fOpE_pure hm hsm l _ (fun o' ho' => hap o' (List.mem_cons_of_mem _ ho')) hr
    obtain ⟨hap1, hso⟩ := hap o (List.mem_cons_self ..)
    obtain ⟨o2, ho2, hg, hk⟩ := h1
    obtain rfl : om = o2 := Option.some.inj (hm.symm.trans ho2)
    refine ⟨om, hm, hg, fun w2 h2 => ?_⟩
    obtain ⟨u, w1, h3, h4, h5⟩ := hk w2 h2
    rw [apart_run hap1 hsm] at h3
    refine ⟨u, w1, h3, h4, v, ?_, ?_⟩
    · exact hy.of_same (execOp_put o hso a om.dst u (Oper.apart_spec hap1).2.2) (wanted_put o a om.dst u (Oper.apart_spec hap1).2.2)
    · rw [← Act.put_comm a v u (Oper.apart_spec hap1).2.1]; exact h5

/-- p operations that may be taken first, from k on; then a forced row. -/
def lexPure (md : Region.Mode) (ops : Array Oper) (g : Nat) : Nat → Nat → Array Bool → Bool
  | 0, k, listed => Region.seqB md ops g k listed
  | p + 1, k, listed => (Region.ready md ops listed).contains k && Region.free md ops listed k && lexPure md ops g p (k + 1) (listed.setIfInBounds k true)

theorem wpAny_pure {Q : Exit → Act → World → Prop} (hsel : Region.noSelect ops = true) (hQ : ∀ c a d v w, Q (.panic c) (Act.put a d v) w → Q (.panic c) a w) (S : List Oper) {w : World} :
    ∀ (l : List Oper) (k : Nat) (listed : Array Bool) (a : Act), (∀ j, (l ++ S)[j]? = ops[k + j]?) → lexPure md ops S.length l.length k listed = true →
      wpPure P ops (fun a' => wpList P ops Q S a' w) l a → wpAny P md ops Q (l.length + S.length) listed a w
  | [], k, listed, a, hl, hB, h => by
    simp only [List.length_nil, Nat.zero_add]
    exact wpAny_of_seq S k listed a w (by simpa using hl) (by simpa [lexPure] using hB) h
  | o :: l, k, listed, a, hl, hB, h => by
    have h0 : ops[k]? = some o := by simpa using (hl 0).symm
    simp only [List.length_cons, lexPure, Bool.and_eq_true] at hB
    obtain ⟨⟨hr, hf⟩, hB'⟩ := hB
    obtain ⟨v, hy, hK⟩ := h
    have ih := wpAny_pure hsel hQ S l (k + 1) _ _ (fun j => by have := hl (j + 1); simpa [Nat.add_assoc, Nat.add_comm 1 j] using this) hB' hK
    rw [List.length_cons, show l.length + 1 + S.length = (l.length + S.length) + 1 by omega]
    exact wpAny_first h0 (Region.noSelect_spec hsel) (fun c a w h => hQ c a _ _ w h) _ listed a w (Region.free_spec h0 hf) (by simpa using hr) hy ih

/-- t waits for i, through whatever others. -/
def reach (md : Region.Mode) (ops : Array Oper) : Nat → Nat → Nat → Bool
  | 0, _, _ => false
  | f + 1, t, i => match ops[t]? with
    | some o => (o.after.any fun e => Region.binds md e && e.on == i) || (o.after.any fun e => Region.binds md e && reach md ops f e.on i)
    | none => false

/-- What has come up is closed under what it waited for. -/
def Closed (md : Region.Mode) (ops : Array Oper) (l : Array Bool) : Prop :=
  ∀ j oj, ops[j]? = some oj → l.getD j false = true → ∀ e ∈ oj.after, Region.binds md e = true → l.getD e.on false = true
theorem Closed.set {l : Array Bool} {j : Nat} (h : Closed md ops l) (hj : j ∈ Region.ready md ops l) : Closed md ops (l.setIfInBounds j true) := by
  obtain ⟨_, oi, hoi, hall⟩ := mem_ready.1 hj
  intro k ok hk hl e he hb
  by_cases hjk : j = k
  · subst hjk
    obtain rfl : ok = oi := Option.some.inj (hk.symm.trans hoi)
    exact getD_set_true (hall e he hb)
  · rw [getD_set_ne false hjk] at hl
    exact getD_set_true (h k ok hk hl e he hb)
theorem Closed.reach {l : Array Bool} (h : Closed md ops l) : ∀ (f t i : Nat) (ot : Oper), ops[t]? = some ot → (∀ e ∈ ot.after, Region.binds md e = true → l.getD e.on false = true) → reach md ops f t i = true → l.getD i false = true
  | 0, _, _, _, _, _, hr => by cases hr
  | f + 1, t, i, ot, ho, hall, hr => by
    simp only [Ytalpjipopipncaa.reach, ho, Bool.or_eq_true] at hr
    rcases hr with hr | hr
    · obtain ⟨e, he, hb⟩ := Array.any_eq_true'.1 hr
      simp only [Bool.and_eq_true, beq_iff_eq] at hb
      exact hb.2 ▸ hall e he hb.1
    · obtain ⟨e, he, hb⟩ := Array.any_eq_true'.1 hr
      simp only [Bool.and_eq_true] at hb
      have hl := hall e he hb.1
      cases ho' : ops[e.on]? with
      | none =>
        have : Ytalpjipopipncaa.reach md ops f e.on i = false := by cases f <;> simp [Ytalpjipopipncaa.reach, ho']
        rw [this] at hb
        cases hb.2
      | some o' => exact Closed.reach h f e.on i o' ho' (fun e' he' hb' => h e.on o' ho' hl e' he' hb') hb.2

def upTo (N k : Nat) : Array Bool := (Array.range N).map fun i => decide (i < k)
/-- From n on all but m wait for each of the head. -/
def waitsB (md : Region.Mode) (ops : Array Oper) (n : Nat) (m : Option Nat) : Bool :=
  (List.range ops.size).all fun t => decide (t < n) || (some t == m) || (List.range n).all fun i => reach md ops ops.size t i
theorem waitsB_spec {n : Nat} {m : Option Nat} (h : waitsB md ops n m = true) {l : Array Bool} (hc : Closed md ops l) {i t : Nat} (hi : i < n) (hun : l.getD i true = false) (ht : n ≤ t)
    (hr : t ∈ Region.ready md ops l) : some t = m := by
  obtain ⟨_, ot, hot, hall⟩ := mem_ready.1 hr
  have htlt : t < ops.size := (Array.getElem?_eq_some_iff.1 hot).1
  have h1 := List.all_eq_true.1 h t (List.mem_range.2 htlt)
  simp only [Bool.or_eq_true, decide_eq_true_eq, beq_iff_eq] at h1
  rcases h1 with (h1 | h1) | h1
  · omega
  · exact h1
  · have h2 := List.all_eq_true.1 h1 i (List.mem_range.2 hi)
    have h3 := hc.reach _ _ _ ot hot hall h2
    rw [getD_both hun] at h3
    cases h3

/-- The head in the order of the text. -/
def lexHeadB (md : Region.Mode) (ops : Array Oper) : Nat → Nat → Array Bool → Bool
  | 0, _, _ => true
  | f + 1, k, listed => (Region.ready md ops listed).contains k && Region.free md ops listed k && lexHeadB md ops f (k + 1) (listed.setIfInBounds k true)

def setAll : Nat → Nat → Array Bool → Array Bool
  | 0, _, l => l
  | f + 1, k, l => setAll f (k + 1) (l.setIfInBounds k true)

theorem wpF_lex {n : Nat} {L : Array Bool → Act → World → Prop} (hsel : Region.noSelect ops = true) (hwt : waitsB md ops n none = true) (hdone : ∀ listed a w, L listed a w → ∀ j ∈ Region.ready md ops listed, n ≤ j) {w : World} {T : Act → Prop} :
    ∀ (l : List Oper) (k : Nat) (listed : Array Bool) (a : Act), (∀ j, j < l.length → l[j]? = ops[k + j]?) → k + l.length = n → Closed md ops listed → lexHeadB md ops l.length k listed = true →
      (∀ a', T a' → L (setAll l.length k listed) a' w) → wpHead P ops w T l a → wpF P md ops n L l.length listed a w
  | [], k, listed, a, _, _, _, _, hT, h => hT a h
  | o :: l, k, listed, a, hl, hk, hc, hB, hT, h => by
    have h0 : ops[k]? = some o := by simpa using (hl 0 (by simp)).symm
    simp only [List.length_cons, lexHeadB, Bool.and_eq_true] at hB
    obtain ⟨⟨hr, hf⟩, hB'⟩ := hB
    have hkn : k < n := by simp only [List.length_cons] at hk; omega
    have hr' : k ∈ Region.ready md ops listed := by simpa using hr
    have hst : ∃ v, YieldsE P ops o v a w ∧ wpHead P ops w T l (a.put o.dst v) := by
      unfold wpHead at h
      split at h
      · rename_i hw; obtain ⟨v, h1, h2⟩ := h; exact ⟨v, .inl ⟨hw, h1⟩, h2⟩
      · rename_i hw; exact ⟨undef, .inr ⟨by simpa using hw, rfl⟩, h⟩
    obtain ⟨v, hy, hK⟩ := hst
    exact wpF_first h0 (Region.noSelect_spec hsel) hkn hdone (Closed md ops) (fun l j hl hj => hl.set hj) (fun l hl i hi hun t ht hr => by have := waitsB_spec hwt hl hi hun ht hr; cases this)
      l.length listed a w hc (Region.free_spec h0 hf) hr' hy
      (wpF_lex hsel hwt hdone l (k + 1) _ _ (fun j hj => by have := hl (j + 1) (by simp; omega); simpa [Nat.add_assoc, Nat.add_comm 1 j] using this) (by simp only [List.length_cons] at hk; omega) (hc.set hr') hB' hT hK)

theorem wpG_lex {n m : Nat} {L G : Array Bool → Act → World → Prop} (hsel : Region.noSelect ops = true) (hwt : waitsB md ops n (some m) = true) (hdone : ∀ listed a w, L listed a w → ∀ j ∈ Region.ready md ops listed, n ≤ j)
    (hG : ∀ l a w, G l a w → (∀ j ∈ Region.ready md ops l, n ≤ j) ∧ fOpE P ops m (L (l.setIfInBounds m true)) a w) {w : World} {T : Act → Prop} :
    ∀ (l : List Oper) (k : Nat) (listed : Array Bool) (a : Act), (∀ j, j < l.length → l[j]? = ops[k + j]?) → k + l.length = n → Closed md ops listed → lexHeadB md ops l.length k listed = true →
      (∀ a', T a' → G (setAll l.length k listed) a' w) → wpHead P ops w T l a → wpG P md ops n m L G l.length listed a w
  | [], k, listed, a, _, _, _, _, hT, h => hT a h
  | o :: l, k, listed, a, hl, hk, hc, hB, hT, h => by
    have h0 : ops[k]? = some o := by simpa using (hl 0 (by simp)).symm
    simp only [List.length_cons, lexHeadB, Bool.and_eq_true] at hB
    obtain ⟨⟨hr, hf⟩, hB'⟩ := hB
    have hkn : k < n := by simp only [List.length_cons] at hk; omega
    have hr' : k ∈ Region.ready md ops listed := by simpa using hr
    have hst : ∃ v, YieldsE P ops o v a w ∧ wpHead P ops w T l (a.put o.dst v) := by
      unfold wpHead at h
      split at h
      · rename_i hw; obtain ⟨v, h1, h2⟩ := h; exact ⟨v, .inl ⟨hw, h1⟩, h2⟩
      · rename_i hw; exact ⟨undef, .inr ⟨by simpa using hw, rfl⟩, h⟩
    obtain ⟨v, hy, hK⟩ := hst
    exact wpG_first h0 (Region.noSelect_spec hsel) hkn hG hdone (Closed md ops) (fun l j hl hj => hl.set hj) (fun l hl i hi hun t ht hr => by have := waitsB_spec hwt hl hi hun ht hr; simpa using this)
      l.length listed a w hc (Region.free_spec h0 hf) hr' hy
      (wpG_lex hsel hwt hdone hG l (k + 1) _ _ (fun j hj => by have := hl (j + 1) (by simp; omega); simpa [Nat.add_assoc, Nat.add_comm 1 j] using this) (by simp only [List.length_cons] at hk; omega) (hc.set hr') hB' hT hK)

/-- No panic, no jump: what a region's own row comes to when it goes through. -/
def nOnly (Q : Exit → Act → World → Prop) : Exit → Act → World → Prop
  | .normal, a, w => Q .normal a w
  | _, _, _ => False
theorem wp_monoQ {o : Oper} {a : Act} {w : World} {K : Act → World → Prop} {Q : Exit → Act → World → Prop} (hh : o.wp P a w K (nOnly Q)) : o.wp P a w K Q := by
  unfold Oper.wp at *
  generalize (execOp a.eval o).run P w = r at *
  cases r with
  | ok n w' =>
    cases n <;> simp only [Oper.upon] at hh ⊢ <;> try exact hh
    exact Calls.mono hh (fun e w'' he => by
      cases e with
      | returned v => exact he
      | panicked c => exact he.elim
      | outgrown => obtain ⟨_, _, h⟩ := he; exact h.elim)
  | halt x w' => cases x <;> simp only [Oper.upon] at hh ⊢ <;> exact hh.elim
theorem letsOut_nOnly {Q : Exit → Act → World → Prop} (h : LetsOut (nOnly Q)) : False := by obtain ⟨_, _, h⟩ := h; exact h
theorem wpAny_monoQ {Q : Exit → Act → World → Prop} : ∀ (f : Nat) (listed : Array Bool) (a : Act) (w : World), wpAny P md ops (nOnly Q) f listed a w → wpAny P md ops Q f listed a w
  | 0, _, _, _, h => h
  | f + 1, _, _, _, h => ⟨h.1, fun i hi => by
      have h1 := wpOp_mono (fun a' w' h' => wpAny_monoQ f _ a' w' h') (h.2 i hi)
      unfold wpOp at *
      split
      · rename_i ho; simpa [ho] using h1
      · rename_i o ho
        simp only [ho] at h1
        split
        · rename_i hw
          rw [if_pos hw] at h1
          rcases h1 with h1 | ⟨_, h1⟩
          · exact .inl (wp_monoQ h1)
          · exact (letsOut_nOnly h1).elim
        · rename_i hw; rw [if_neg hw] at h1; exact h1⟩

/-- The whole test over a region of N operations: n of the head, then (if fr) one that makes a block is number m = n + p; p that look at no memory stand ahead of it. -/
def regionB (ops : Array Oper) (n p : Nat) : Bool :=
  Region.noSelect ops && decide (n + p ≤ ops.size) && waitsB .any ops n none && lexHeadB .any ops n 0 (Array.replicate ops.size false) &&
  (Region.ready .any ops (setAll n 0 (Array.replicate ops.size false))).all (fun j => decide (n ≤ j)) && lexPure .any ops (ops.size - n - p) p n (setAll n 0 (Array.replicate ops.size false))

theorem closed_none (N : Nat) : Closed md ops (Array.replicate N false) := fun j oj _ hl => (by rw [getD_replicate_false] at hl; cases hl)

theorem nOnly_panic {Q : Exit → Act → World → Prop} : ∀ c a d v w, nOnly Q (.panic c) (Act.put a d v) w → nOnly Q (.panic c) a w := fun _ _ _ _ _ h => h

/-- A REGION THAT DRAWS ITS ORDER: n quiet operations, p that look at no memory, then a forced row. -/
theorem wp_region_row {id : Nat} {Q : Exit → Act → World → Prop} {a : Act} {w : World} {l : List Oper} (n p : Nat) (hm : P.follows .mixedOrders = true) (hB : regionB l.toArray n p = true)
    (h : wpHead P l.toArray w.drew (wpPure P l.toArray (fun a' => ∀ w', Ext w.drew w' → wpList P l.toArray (nOnly Q) (l.drop (n + p)) a' w') ((l.drop n).take p)) (l.take n) a) :
    (Code.region id l.toArray true).wp P Q a w := by
  simp only [regionB, Bool.and_eq_true, decide_eq_true_eq, List.size_toArray] at hB
  obtain ⟨⟨⟨⟨⟨hsel, hnp⟩, hwt⟩, hlex⟩, hrd⟩, hpure⟩ := hB
  refine wp_region_any hm (wpAny_monoQ _ _ _ _ ?_)
  have htl : (l.take n).length = n := by simp; omega
  have hpl : ((l.drop n).take p).length = p := by simp; omega
  have hsl : (l.drop (n + p)).length = l.length - n - p := by simp; omega
  have happ : (l.drop n).take p ++ l.drop (n + p) = l.drop n := by rw [← List.drop_drop]; exact List.take_append_drop p (l.drop n)
  let L : Array Bool → Act → World → Prop := fun listed a w => listed = setAll n 0 (Array.replicate l.length false) ∧ wpPure P l.toArray (fun a' => ∀ w', Ext w w' → wpList P l.toArray (nOnly Q) (l.drop (n + p)) a' w') ((l.drop n).take p) a
  have hLm : ∀ ls, MonoE (L ls) := fun ls a w w' hh he => ⟨hh.1, wpPure_imp (fun a' h1 w2 h2 => h1 w2 (he.trans h2)) _ _ hh.2⟩
  have hdone : ∀ listed a w, L listed a w → ∀ j ∈ Region.ready .any l.toArray listed, n ≤ j := fun listed a w hh j hj => by
    rw [hh.1] at hj
    simpa using List.all_eq_true.1 hrd j hj
  have H := wpF_lex (md := .any) (L := L) hsel hwt hdone (w := w.drew) (l.take n) 0 (Array.replicate l.length false) a (fun j hj => by
    have hj' : j < n := by rw [htl] at hj; exact hj
    simp [hj']) (by simpa using htl) (closed_none _) (by rw [htl]; exact hlex) (fun a' hT => by rw [htl]; exact ⟨rfl, hT⟩) h
  have := wpAny_of_wpF (Q := nOnly Q) (g := l.length - n) hLm (fun listed a' w' hL => by
    have h1 := wpAny_pure (md := .any) (Q := nOnly Q) (w := w') hsel nOnly_panic (l.drop (n + p)) ((l.drop n).take p) n listed a' (fun j => by rw [happ]; simp [List.getElem?_drop]) (by rw [hpl, hsl, hL.1]; exact hpure)
      (wpPure_imp (fun a2 h2 => h2 w' (Ext.refl _)) _ _ hL.2)
    rw [hpl, hsl, show p + (l.length - n - p) = l.length - n by omega] at h1
    exact h1) _ _ _ _ H
  rw [htl, show n + (l.length - n) = l.toArray.size by simp; omega] at this
  exact this

def regionFB (ops : Array Oper) (n p : Nat) : Bool :=
  Region.noSelect ops && decide (n + p + 1 ≤ ops.size) && waitsB .any ops n (some (n + p)) && lexHeadB .any ops n 0 (Array.replicate ops.size false) &&
  (Region.ready .any ops (setAll n 0 (Array.replicate ops.size false))).all (fun j => decide (n ≤ j)) && (Region.ready .any ops ((setAll n 0 (Array.replicate ops.size false)).setIfInBounds (n + p) true)).all (fun j => decide (n ≤ j)) &&
  lexPure .any ops (ops.size - n - p) p n (setAll n 0 (Array.replicate ops.size false)) &&
  lexPure2 .any ops (ops.size - n - p - 1) p n ((setAll n 0 (Array.replicate ops.size false)).setIfInBounds (n + p) true) &&
  ((List.range p).all fun j => match ops[n + j]?, ops[n + p]? with | some o, some om => o.apart ops om | _, _ => false) &&
  (match ops[n + p]? with | some om => om.guard.isNone | none => false)
where lexPure2 (md : Region.Mode) (ops : Array Oper) (g : Nat) : Nat → Nat → Array Bool → Bool
  | 0, k, listed => Region.seqB md ops g (k + 1) listed
  | p + 1, k, listed => (Region.ready md ops listed).contains k && Region.free md ops listed k && lexPure2 md ops g p (k + 1) (listed.setIfInBounds k true)

theorem wpAny_pure2 {Q : Exit → Act → World → Prop} (hsel : Region.noSelect ops = true) (hQ : ∀ c a d v w, Q (.panic c) (Act.put a d v) w → Q (.panic c) a w) (om : Oper) (S : List Oper) {w : World} :
    ∀ (l : List Oper) (k : Nat) (listed : Array Bool) (a : Act), (∀ j, (l ++ om :: S)[j]? = ops[k + j]?) → regionFB.lexPure2 md ops S.length l.length k listed = true →
      wpPure P ops (fun a' => wpList P ops Q S a' w) l a → wpAny P md ops Q (l.length + S.length) listed a w
  | [], k, listed, a, hl, hB, h => by
    simp only [List.length_nil, Nat.zero_add]
    exact wpAny_of_seq S (k + 1) listed a w (fun j => by have := hl (j + 1); simpa [Nat.add_assoc, Nat.add_comm 1 j] using this) (by simpa [regionFB.lexPure2] using hB) h
  | o :: l, k, listed, a, hl, hB, h => by
    have h0 : ops[k]? = some o := by simpa using (hl 0).symm
    simp only [List.length_cons, regionFB.lexPure2, Bool.and_eq_true] at hB
    obtain ⟨⟨hr, hf⟩, hB'⟩ := hB
    obtain ⟨v, hy, hK⟩ := h
    have ih := wpAny_pure2 hsel hQ om S l (k + 1) _ _ (fun j => by have := hl (j + 1); simpa [Nat.add_assoc, Nat.add_comm 1 j] using this) hB' hK
    rw [List.length_cons, show l.length + 1 + S.length = (l.length + S.length) + 1 by omega]
    exact wpAny_first h0 (Region.noSelect_spec hsel) (fun c a w h => hQ c a _ _ w h) _ listed a w (Region.free_spec h0 hf) (by simpa using hr) hy ih

/-- A REGION THAT DRAWS ITS ORDER: n quiet operations, p that look at no memory, one that makes a block (it may come up at any time), then a forced row. -/
theorem wp_region_new {id : Nat} {Q : Exit → Act → World → Prop} {a : Act} {w : World} {l : List Oper} (n p : Nat) (hm : P.follows .mixedOrders = true) (hB : regionFB l.toArray n p = true)
    (h : wpHead P l.toArray w.drew (wpPure P l.toArray (fun a' => fOpE P l.toArray (n + p) (fun a1 w1 => ∀ w', Ext w1 w' → wpList P l.toArray (nOnly Q) (l.drop (n + p + 1)) a1 w') a' w.drew) ((l.drop n).take p)) (l.take n) a) :
    (Code.region id l.toArray true).wp P Q a w := by
  simp only [regionFB, Bool.and_eq_true, decide_eq_true_eq, List.size_toArray] at hB
  obtain ⟨⟨⟨⟨⟨⟨⟨⟨⟨hsel, hnp⟩, hwt⟩, hlex⟩, hrd⟩, hrd2⟩, hpure⟩, hpure2⟩, hap⟩, hgd⟩ := hB
  refine wp_region_any hm (wpAny_monoQ _ _ _ _ ?_)
  have htl : (l.take n).length = n := by simp; omega
  have hpl : ((l.drop n).take p).length = p := by simp; omega
  have hlt : n + p < l.length := by omega
  have hsl : (l.drop (n + p + 1)).length = l.length - n - p - 1 := by simp; omega
  have hom : l.toArray[n + p]? = some l[n + p] := by simp [hlt]
  have hdr : l.drop (n + p) = l[n + p] :: l.drop (n + p + 1) := List.drop_eq_getElem_cons hlt
  have happ : (l.drop n).take p ++ l.drop (n + p) = l.drop n := by rw [← List.drop_drop]; exact List.take_append_drop p (l.drop n)
  have hap' : ∀ o ∈ (l.drop n).take p, o.apart l.toArray l[n + p] = true ∧ ∀ cs b, o.op ≠ .select cs b := fun o ho => by
    obtain ⟨j, hj, rfl⟩ := List.getElem_of_mem ho
    have hjp : j < p := by rw [hpl] at hj; exact hj
    have h1 := List.all_eq_true.1 hap j (List.mem_range.2 hjp)
    have h2 : l.toArray[n + j]? = some l[n + j] := by
      have : n + j < l.length := by omega
      simp [this]
    rw [h2, hom] at h1
    have h3 : ((l.drop n).take p)[j] = l[n + j] := by simp
    rw [h3]
    exact ⟨h1, fun cs b => Region.noSelect_spec hsel _ _ cs b h2⟩
  let L : Array Bool → Act → World → Prop := fun listed a w => listed = (setAll n 0 (Array.replicate l.length false)).setIfInBounds (n + p) true ∧ wpPure P l.toArray (fun a' => ∀ w', Ext w w' → wpList P l.toArray (nOnly Q) (l.drop (n + p + 1)) a' w') ((l.drop n).take p) a
  let G : Array Bool → Act → World → Prop := fun listed a w => listed = setAll n 0 (Array.replicate l.length false) ∧ wpPure P l.toArray (fun a' => fOpE P l.toArray (n + p) (fun a1 w1 => ∀ w', Ext w1 w' → wpList P l.toArray (nOnly Q) (l.drop (n + p + 1)) a1 w') a' w) ((l.drop n).take p) a
  have hLm : ∀ ls, MonoE (L ls) := fun ls a w w' hh he => ⟨hh.1, wpPure_imp (fun a' h1 w2 h2 => h1 w2 (he.trans h2)) _ _ hh.2⟩
  have hGm : ∀ ls, MonoE (G ls) := fun ls a w w' hh he => ⟨hh.1, wpPure_imp (fun a' h1 => fOpE_mono a' w w' h1 he) _ _ hh.2⟩
  have hdone : ∀ listed a w, L listed a w → ∀ j ∈ Region.ready .any l.toArray listed, n ≤ j := fun listed a w hh j hj => by
    rw [hh.1] at hj
    simpa using List.all_eq_true.1 hrd2 j hj
  have hG : ∀ ls a w, G ls a w → (∀ j ∈ Region.ready .any l.toArray ls, n ≤ j) ∧ fOpE P l.toArray (n + p) (L (ls.setIfInBounds (n + p) true)) a w := fun ls a w hh => by
    refine ⟨fun j hj => ?_, ?_⟩
    · rw [hh.1] at hj
      simpa using List.all_eq_true.1 hrd j hj
    · rw [hh.1]
      exact fOpE_imp (fun a1 w1 _ h1 => ⟨rfl, h1⟩) (fOpE_pure hom (fun cs b => Region.noSelect_spec hsel _ _ cs b hom) _ _ hap' hh.2)
  have H := wpG_lex (md := .any) (m := n + p) (L := L) (G := G) hsel hwt hdone hG (w := w.drew) (l.take n) 0 (Array.replicate l.length false) a (fun j hj => by
    have hj' : j < n := by rw [htl] at hj; exact hj
    simp [hj']) (by simpa using htl) (closed_none _) (by rw [htl]; exact hlex) (fun a' hT => by rw [htl]; exact ⟨rfl, hT⟩) h
  have := wpAny_of_wpG (Q := nOnly Q) (g := l.length - n - 1) hLm hGm (fun listed a' w' hL => by
    have h1 := wpAny_pure2 (md := .any) (Q := nOnly Q) (w := w') hsel nOnly_panic l[n + p] (l.drop (n + p + 1)) ((l.drop n).take p) n listed a' (fun j => by rw [← hdr, happ]; simp [List.getElem?_drop]) (by rw [hpl, hsl, hL.1]; exact hpure2)
      (wpPure_imp (fun a2 h2 => h2 w' (Ext.refl _)) _ _ hL.2)
    rw [hpl, hsl, show p + (l.length - n - p - 1) = l.length - n - 1 by omega] at h1
    exact h1) (fun listed a' w' hG => by
    have h1 := wpAny_pure (md := .any) (Q := nOnly Q) (w := w') hsel nOnly_panic (l.drop (n + p)) ((l.drop n).take p) n listed a' (fun j => by rw [happ]; simp [List.getElem?_drop]) (by rw [hpl, hG.1]; simpa [Nat.sub_sub] using hpure)
      (wpPure_imp (fun a2 h2 => by
        obtain ⟨o, ho, hg, hk⟩ := h2
        obtain rfl : l[n + p] = o := Option.some.inj (hom.symm.trans ho)
        obtain ⟨v, w1, h3, _, h5⟩ := hk w' (Ext.refl _)
        rw [hdr]
        refine wpList_plain hg fun K hK => ?_
        unfold Oper.wp
        rw [h3]
        exact hK _ _ (h5 w1 (Ext.refl _))) _ _ hG.2)
    rw [hpl, show p + (l.drop (n + p)).length = l.length - n - 1 + 1 by simp; omega] at h1
    exact h1) _ _ _ _ H
  rw [htl, show n + (l.length - n - 1 + 1) = l.toArray.size by simp; omega] at this
  exact this
end
end Go.Proofs.Ytalpjipopipncaa
