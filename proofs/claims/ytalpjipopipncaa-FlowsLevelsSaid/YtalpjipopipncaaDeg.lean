/- The walk of degrees. Conditions: those of degrees_any. -/
import Derived.Test.YtalpjipopipncaaFol
namespace Go.Proofs.Ytalpjipopipncaa
open Go Go.RowKit

/-- Edges in memory: nothing is asked of none. -/
def EdgesAt (w : World) (ao : Option Addr) (E : List Edg) : Prop := E ≠ [] → ∃ ge, ao = some ⟨ge, 0, none⟩ ∧ Row w ge 51 3 edC E
theorem EdgesAt.keep {S : List Nat} {w w' : World} {ao : Option Addr} {E : List Edg} (h : EdgesAt w ao E) (hk : Keep S w w') (hn : ∀ ge, ao = some ⟨ge, 0, none⟩ → ge < w.heap.size → ge ∉ S) : EdgesAt w' ao E := fun hE => by
  obtain ⟨ge, h1, h2⟩ := h hE
  exact ⟨ge, h1, h2.keep hk (hn ge h1 h2.lt)⟩
theorem EdgesAt.ext {w w' : World} {ao : Option Addr} {E : List Edg} (h : EdgesAt w ao E) (hk : Ext w w') : EdgesAt w' ao E := h.keep hk (by simp)

def dgC (x : Int × Int) : Array Value := #[.int .u64 x.1, .int .u64 x.2]
theorem dgC_size (s : Int × Int) : (dgC s).size = 2 := rfl

theorem run_make_rowN {P : Program} (t e : TypeId) (i : TypeInfo) (z : Value) (ht : P.underlying t = some (.slice e)) (hi : P.info? e = some i) (hz : i.zero = some z)
    (kl kc : IntKind) (n c : Nat) (hnc : n ≤ c) (hbytes : i.bytes * c ≤ 281474976710656) (h63 : c ≤ 9223372036854775807) (w : World) :
    (Instr.makeSlice t (.int kl (n : Int)) (.int kc (c : Int))).run P w = .ok (.slice (some ⟨w.heap.size, 0, none⟩) n c) (w.alloc (.cells (madeCells z.cells (c * i.size)) e)) := by
  have hb : (i.bytes : Int) * (c : Int) ≤ 281474976710656 := by
    have h : ((i.bytes * c : Nat) : Int) ≤ 281474976710656 := by omega
    rwa [Int.natCast_mul] at h
  have hr := run_make (P := P) w t e i z ht hi hz kl kc n c (by omega) (by omega) hb (by omega)
  simp only [Int.toNat_natCast] at hr
  exact hr

theorem info115 : (Try.prog.info? 115).map (fun i => (i.zero, i.size, i.bytes)) = some (some (.agg #[.int .u64 0, .int .u64 0]), 2, 16) := by kernel_rfl

theorem row_made {α : Type} {k : Nat} {enc : α → Array Value} (z : α) (hk : (enc z).size = k) (w : World) (t : TypeId) (n B : Nat) (hB : B = w.heap.size) :
    Row (w.alloc (.cells (madeCells (enc z) (n * k)) t)) B t k enc (List.replicate n z) := by
  subst hB
  refine ⟨_, heap_alloc_new w _, by simp [madeCells], fun i hi j hj => ?_⟩
  have hi' : i < n := by simpa using hi
  have hlt : i * k + j < n * k := mul_lt_of hi' hj
  simp only [madeCells, Array.getElem?_map, List.getElem_replicate]
  rw [Array.getElem?_eq_getElem (by simpa using hlt)]
  have hm : (i * k + j) % (enc z).size = j := by rw [hk, Nat.mul_comm, Nat.mul_add_mod]; exact Nat.mod_eq_of_lt hj
  have hj' : j < (enc z).size := by omega
  simp [hm, hj']

set_option maxHeartbeats 2000000 in
theorem degrees_any (n : Nat) (hn : n < 4294967296) (ao : Option Addr) (cap : Nat) (E : List Edg) (hlen : E.length ≤ 9223372036854775807) (hE : ∀ e ∈ E, e.s < n ∧ e.d < n) (w : World) (he : EdgesAt w ao E) :
    Calls Try.prog 46 #[.int .u32 n, .slice ao E.length cap] w fun e w' => ∃ (B : Nat) (D : List (Int × Int)), e = .returned (.slice (some ⟨B, 0, none⟩) n n) ∧ D.length = n ∧ Ext w w' ∧ w.heap.size ≤ B ∧ Row w' B 115 2 dgC D := by
  obtain ⟨i0, hi, hz0, hz1, hz2⟩ := info_parts info115
  have hmk := fun W => run_make_rowN (P := Try.prog) 110 115 i0 _ Try.underlying110 hi hz0 .u32 .u32 n n (Nat.le_refl _) (by rw [hz2]; omega) (by omega) W
  rw [hz1] at hmk
  have H0 : Hid (Row (w.alloc (.cells (madeCells #[.int .u64 0, .int .u64 0] (n * 2)) 115)) w.heap.size 115 2 dgC (List.replicate n (0, 0))) := row_made (enc := dgC) (0, 0) rfl w 115 n _ rfl
  have HE := Lib.hid he
  have HED := Lib.hid hE
  clear he hE hi hz0 hz1 hz2
  go_enter Try.func46, Try.ntmps46
  go_wp2
  go_loopw [6] (fun i wr => ∃ (k : Nat) (D : List (Int × Int)), k ≤ E.length ∧ i = .int .i64 k ∧ D.length = n ∧ Ext w wr ∧ Row wr w.heap.size 115 2 dgC D) (fun i _ => E.length - (intOf i).toNat)
  case atStart => exact ⟨0, List.replicate n (0, 0), Nat.zero_le _, rfl, by simp, Ext.alloc _ _, H0.out⟩
  case round =>
    obtain ⟨k, D, hk, rfl, hD, hX, hRow⟩ := hrel
    by_cases hlt : k < E.length
    · have hkk : (k : Int) < (E.length : Int) := by omega
      obtain ⟨ge, rfl, hge⟩ := HE.out (by intro h; subst h; simp at hlt)
      have hgl := hge.lt
      have hge2 := hge.ext hX
      obtain ⟨hs, hd⟩ := HED.out E[k] (List.getElem_mem hlt)
      have e0 : wr.cell? ⟨ge, k * 3, none⟩ = some (.int .u32 E[k].s) := hge2.cell hlt (j := 0) (by omega) rfl
      have e1 : wr.cell? ⟨ge, k * 3 + 1, none⟩ = some (.int .u32 E[k].d) := hge2.cell hlt (j := 1) (by omega) rfl
      generalize E[k].s = u at *
      generalize E[k].d = d at *
      have hs' : u < D.length := by omega
      have hd' : d < D.length := by omega
      have d0 : wr.cell? ⟨w.heap.size, u * 2, none⟩ = some (.int .u64 D[u].1) := hRow.cell hs' (j := 0) (by omega) rfl
      have hR2 : ∀ x, Row (wr.setCell ⟨w.heap.size, u * 2, none⟩ (.int .u64 x)) w.heap.size 115 2 dgC (D.set u (x, D[u].2)) := fun x => hRow.set dgC_size hs' (j := 0) (by omega) rfl
      have d1 : ∀ x, (wr.setCell ⟨w.heap.size, u * 2, none⟩ (.int .u64 x)).cell? ⟨w.heap.size, d * 2 + 1, none⟩ = some (.int .u64 D[d].2) := fun x => (hR2 x).cell (by simpa using hd') (j := 1) (by omega) (by simp [List.getElem_set, dgC]; split <;> simp_all)
      have f0 := hRow.frozen (u * 2)
      have f1 := hRow.frozen (d * 2 + 1)
      have hu2 : (u : Int) < (n : Int) := by omega
      have hd2 : (d : Int) < (n : Int) := by omega
      have hnew : ∀ x y, Row ((wr.setCell ⟨w.heap.size, u * 2, none⟩ (.int .u64 x)).setCell ⟨w.heap.size, d * 2 + 1, none⟩ (.int .u64 y)) w.heap.size 115 2 dgC ((D.set u (x, D[u].2)).set d (((D.set u (x, D[u].2))[d]'(by simpa using hd')).1, y)) := fun x y => (hR2 x).set dgC_size (by simpa using hd') (j := 1) (by omega) rfl
      have HN := Lib.hid hnew
      have HX := Lib.hid hX
      have HD := Lib.hid hD
      clear hnew hX hD hRow hR2 hge hge2
      go_wp2
      go_roundw
      case rel =>
        refine ⟨k + 1, _, by omega, by go_num, ?_, ?_, HN.out _ _⟩
        · simp [HD.out]
        · exact ((Keep.setCell HX.out (.inr (Nat.le_refl _)) _).setCell (.inr (Nat.le_refl _)) _)
      case measure => simp [intOf]; omega
    · have hkn : k = E.length := by omega
      subst hkn
      have HR := Lib.hid hRow
      have HX := Lib.hid hX
      have HD := Lib.hid hD
      clear hRow hX hD
      go_wp2
      go_ret
      exact ⟨w.heap.size, D, rfl, HD.out, HX.out, Nat.le_refl _, HR.out⟩
end Go.Proofs.Ytalpjipopipncaa
