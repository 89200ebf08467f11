/- The walks of the library's BinarySearch and Max at numbers of 32 bits, and of the spread's Start. Conditions: those of each theorem. -/
import Derived.Test.YtalpjipopipncaaSpr
namespace Go.Proofs.Ytalpjipopipncaa
open Go Go.RowKit

def u32C (x : Nat) : Array Value := #[.int .u32 x]
theorem u32C_size (x : Nat) : (u32C x).size = 1 := rfl
theorem row_u32 {w : World} {g : Nat} {L : List Nat} (h : Row w g 25 1 u32C L) {i : Nat} (hi : i < L.length) : w.cell? ⟨g, i, none⟩ = some (.int .u32 (L.getD i 0 : Nat)) := by
  have := h.cell hi (j := 0) (by omega) (v := .int .u32 (L[i] : Nat)) rfl
  have e : L.getD i 0 = L[i] := by simp [List.getD_eq_getElem?_getD, List.getElem?_eq_getElem hi]
  rw [e]
  simpa using this

set_option maxHeartbeats 400000 in
theorem less_any (a b : Nat) (w : World) : Calls Try.prog 79 #[.int .u32 a, .int .u32 b] w fun e w' => e = .returned (.bool (decide (a < b))) ∧ w' = w := by
  go_enter Try.func79, Try.ntmps79
  go_wp2
  go_ret
  exact ⟨rfl, rfl⟩
set_option maxHeartbeats 400000 in
theorem isNaN_any (a : Nat) (w : World) : Calls Try.prog 134 #[.int .u32 a] w fun e w' => e = .returned (.bool false) ∧ w' = w := by
  go_enter Try.func134, Try.ntmps134
  go_wp2
  go_ret
  exact ⟨rfl, rfl⟩

/-- Ascending. -/
def Asc (L : List Nat) : Prop := ∀ i j, i ≤ j → j < L.length → L.getD i 0 ≤ L.getD j 0
/-- How many of the list are less. -/
def lowN (L : List Nat) (v : Nat) : Nat := L.countP (fun x => decide (x < v))

set_option maxHeartbeats 2000000 in
theorem bsearch_any (L : List Nat) (n : Nat) (hL : L.length = n) (hn : n ≤ 1000000) (hA : Asc L) (g c v : Nat) (w : World) (hR : Row w g 25 1 u32C L) :
    Calls Try.prog 133 #[.slice (some ⟨g, 0, none⟩) n c, .int .u32 v] w fun e w' => ∃ p : Nat, e = .returned (.tuple #[.int .i64 p, .bool (decide (v ∈ L))]) ∧ Ext w w' := by
  have HR := Lib.hid hR
  have HA := Lib.hid hA
  have HL := Lib.hid hL
  have hg := hR.lt
  clear hR hA hL
  go_enter Try.func133, Try.ntmps133
  go_wp2
  go_loopg [7, 8] n (fun m i j wr => ∃ a b : Nat, i = .int .i64 a ∧ j = .int .i64 b ∧ a ≤ b ∧ b ≤ n ∧ b - a = m ∧ (∀ t, t < a → L.getD t 0 < v) ∧ (∀ t, b ≤ t → t < n → v ≤ L.getD t 0) ∧ wr = w)
  case atStart => exact ⟨0, n, rfl, rfl, by omega, by omega, by omega, fun t ht => by omega, fun t h1 h2 => by omega, rfl⟩
  case round =>
    obtain ⟨a, b, rfl, rfl, hab, hbn, hm, h1, h2, rfl⟩ := hrel
    by_cases hlt : a < b
    · have hlti : (a : Int) < (b : Int) := by omega
      have hmid : ((a : Int) + (b : Int)) / 2 = (((a + b) / 2 : Nat) : Int) := by omega
      have hh1 : a ≤ (a + b) / 2 := by omega
      have hh2 : (a + b) / 2 < b := by omega
      have HMID := Lib.hid hmid
      clear hmid
      go_upto_region 5 with fail
      rw [HMID.out]
      clear HMID
      generalize (a + b) / 2 = h at *
      have hhi : (h : Int) < (n : Int) := by omega
      have q := row_u32 HR.out (show h < L.length by rw [HL.out]; omega)
      have hmo : ∀ t, t ≤ h → L.getD t 0 ≤ L.getD h 0 := fun t ht => HA.out t h ht (by rw [HL.out]; omega)
      have hmo2 : ∀ t, h ≤ t → t < n → L.getD h 0 ≤ L.getD t 0 := fun t ht hn => HA.out h t ht (by rw [HL.out]; exact hn)
      generalize L.getD h 0 = x at *
      have HMO := Lib.hid hmo
      have HMO2 := Lib.hid hmo2
      have H1 := Lib.hid h1
      have H2 := Lib.hid h2
      clear hmo hmo2 h1 h2
      by_cases hxv : x < v
      · go_wp2_with (go_at_call 79; refine (less_any x v _).mono ?_; rintro e w' ⟨rfl, rfl⟩)
        go_roundg (b - (h + 1))
        case measure => omega
        case rel => exact ⟨h + 1, b, by go_num, rfl, by omega, hbn, rfl, fun t ht => Nat.lt_of_le_of_lt (HMO.out t (by omega)) hxv, H2.out, rfl⟩
      · go_wp2_with (go_at_call 79; refine (less_any x v _).mono ?_; rintro e w' ⟨rfl, rfl⟩)
        go_roundg (h - a)
        case measure => omega
        case rel => exact ⟨a, h, rfl, rfl, by omega, by omega, rfl, H1.out, fun t ht hn => Nat.le_trans (by omega) (HMO2.out t ht hn), rfl⟩
    · have hab2 : b = a := by omega
      subst hab2
      by_cases han : b < n
      · have hani : (b : Int) < (n : Int) := by omega
        have q := row_u32 HR.out (show b < L.length by rw [HL.out]; exact han)
        have hmem : (v ∈ L) ↔ L.getD b 0 = v := by
          constructor
          · intro hv
            obtain ⟨t, ht, rfl⟩ := List.getElem_of_mem hv
            have e : L.getD t 0 = L[t] := by simp [List.getD_eq_getElem?_getD, List.getElem?_eq_getElem ht]
            have hl := HL.out
            have htb : ¬ t < b := fun hlt2 => by have := h1 t hlt2; omega
            have h3 := h2 b (Nat.le_refl _) han
            have h4 := HA.out b t (by omega) ht
            omega
          · rintro rfl
            rw [List.getD_eq_getElem?_getD, List.getElem?_eq_getElem (by rw [HL.out]; exact han)]
            exact List.getElem_mem _
        have HMEM := Lib.hid hmem
        clear hmem h1 h2
        generalize L.getD b 0 = x at *
        by_cases hxv : x = v
        · have hd := Lib.hid (show decide (v ∈ L) = true from decide_eq_true (HMEM.out.2 hxv))
          subst hxv
          clear HMEM
          go_wp2_with (go_at_call 134; refine (isNaN_any _ _).mono ?_; rintro e w' ⟨rfl, rfl⟩)
          go_ret2
          rw [hd.out]
          exact ⟨b, rfl, Ext.refl _⟩
        · have hd := Lib.hid (show decide (v ∈ L) = false from decide_eq_false (fun h => hxv (HMEM.out.1 h)))
          have hxi : ((x : Int) == (v : Int)) = false := by simpa using show ¬ (x : Int) = (v : Int) by omega
          clear HMEM
          go_wp2_with (go_at_call 134; refine (isNaN_any _ _).mono ?_; rintro e w' ⟨rfl, rfl⟩)
          go_ret2
          rw [hd.out]
          exact ⟨b, rfl, Ext.refl _⟩
      · have hani : ¬ (b : Int) < (n : Int) := by omega
        have hd := Lib.hid (show decide (v ∈ L) = false from decide_eq_false (fun hv => by
          obtain ⟨t, ht, rfl⟩ := List.getElem_of_mem hv
          have e : L.getD t 0 = L[t] := by simp [List.getD_eq_getElem?_getD, List.getElem?_eq_getElem ht]
          have hl := HL.out
          have := h1 t (by omega)
          omega))
        clear h1 h2
        go_wp2
        go_ret2
        rw [hd.out]
        exact ⟨⟨b, rfl⟩, Ext.refl _⟩

set_option maxRecDepth 20000 in
set_option maxHeartbeats 1000000 in
theorem spread_start {sp gs c n : Nat} {srcs : List Nat} {rch : Bool} (L : List Nat) (hmem : ∀ v, v ∈ L ↔ v ∈ srcs) (hL : L.length = n) (hn : n ≤ 1000000) (hA : Asc L) (v : Nat) (hv32 : v < 4294967296) (x y : Int) (w : World) (hb : w.heap[sp]? = some (.cells #[.slice (some ⟨gs, 0, none⟩) n c] 131 (0, 0))) (hR : Row w gs 25 1 u32C L) :
    Calls Try.prog 131 #[.pointer (some ⟨sp, 0, none⟩), .int .u32 v, .agg #[.int .u64 x, .int .u64 y]] w fun e w' => e = .returned (.tuple #[.agg (stC ((spreadP srcs rch).start v)), .int .i64 0]) ∧ Ext w w' := by
  have hc : w.cell? ⟨sp, 0, none⟩ = some (.slice (some ⟨gs, 0, none⟩) n c) := cell_of_row w sp 0 _ _ _ hb
  have hl := (Array.getElem?_eq_some_iff.1 hb).1
  have hl1 : sp < w.heap.size + 1 := by omega
  have hl2 : sp < w.heap.size + 1 + 1 := by omega
  have hbs := fun W (h : Ext w W) => bsearch_any L n hL hn hA gs c v W (hR.ext h)
  have HBS := Lib.hid hbs
  have HM := Lib.hid hmem
  clear hb hR hbs hmem hA hL hn
  have hwv : IntKind.u64.wrap (v : Int) = (v : Int) := by rw [u64_eq]; omega
  have hst : stC ((spreadP srcs rch).start v) = (if v ∈ L then #[.int .u64 0, .int .u64 v, .int .u64 18446744073709551615, .int .u64 0, .int .u64 0, .int .u64 0, .int .u64 0, .int .u64 0] else #[.int .u64 18446744073709551615, .int .u64 18446744073709551615, .int .u64 18446744073709551615, .int .u64 0, .int .u64 0, .int .u64 0, .int .u64 0, .int .u64 0]) := by
    by_cases hv : v ∈ L
    · have hsv : (v : Int) ∈ srcs.map (fun x : Nat => (x : Int)) := List.mem_map.2 ⟨v, (HM.out v).1 hv, rfl⟩
      rw [if_pos hv]
      simp only [stC, spreadP, if_pos hsv]; rfl
    · have hsv : ¬ (v : Int) ∈ srcs.map (fun x : Nat => (x : Int)) := fun h => by
        obtain ⟨u, hu, he⟩ := List.mem_map.1 h
        have : u = v := by omega
        subst this
        exact hv ((HM.out _).2 hu)
      rw [if_neg hv]
      simp only [stC, spreadP, if_neg hsv]; rfl
  rw [hst]
  clear hst
  by_cases hv : v ∈ L
  · rw [if_pos hv]
    have hd := Lib.hid (decide_eq_true hv)
    clear hv
    go_enter Try.func131, Try.ntmps131
    go_wp2_with fail
    go_at_call 133
    refine (HBS.out _ (((Keep.refl [] w).alloc _).alloc _)).mono ?_
    rintro e w' ⟨p, rfl, hX⟩
    rw [hd.out]
    have hZ : At w' (w.heap.size + 1) 0 (stC zeroS) := At.ext (At.new (stC zeroS) 35 (by simp)) hX
    have hXw : Ext w w' := Ext.trans (((Keep.refl [] w).alloc _).alloc _) hX
    have HZ := Lib.hid hZ
    have HX := Lib.hid hXw
    clear hZ hXw hX
    go_wp2_with (refine wpList_store_at rfl 35 _ _ rfl rfl rfl HZ.out i35 rfl (by simp [Value.oneCell']) ?_)
    refine bodyPost_ret (results_at2 rfl _ _ rfl (HZ.out.put rfl) Try.underlying35 rfl i35) rfl ⟨rfl, ?_⟩
    exact Ext.trans' HX.out (keep_wput _ _ _ _) (by simp)
  · rw [if_neg hv]
    have hd := Lib.hid (decide_eq_false hv)
    clear hv
    go_enter Try.func131, Try.ntmps131
    go_wp2_with fail
    go_at_call 133
    refine (HBS.out _ (((Keep.refl [] w).alloc _).alloc _)).mono ?_
    rintro e w' ⟨p, rfl, hX⟩
    rw [hd.out]
    have hZ : At w' (w.heap.size + 1) 0 (stC zeroS) := At.ext (At.new (stC zeroS) 35 (by simp)) hX
    have hXw : Ext w w' := Ext.trans (((Keep.refl [] w).alloc _).alloc _) hX
    have HZ := Lib.hid hZ
    have HX := Lib.hid hXw
    clear hZ hXw hX
    go_wp2_with (refine wpList_store_at rfl 35 _ _ rfl rfl rfl HZ.out i35 rfl (by simp [Value.oneCell']) ?_)
    refine bodyPost_ret (results_at2 rfl _ _ rfl (HZ.out.put rfl) Try.underlying35 rfl i35) rfl ⟨rfl, ?_⟩
    exact Ext.trans' HX.out (keep_wput _ _ _ _) (by simp)
end Go.Proofs.Ytalpjipopipncaa
