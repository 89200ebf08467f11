/- The walk of the reference's outs. Conditions: those of each theorem. -/
import Derived.Test.YtalpjipopipncaaRb1
import Derived.Maps.AppendAt
namespace Go.Proofs.Ytalpjipopipncaa
open Go Go.RowKit

def natC (i : Nat) : Value := .int .i64 (i : Int)
theorem info3 : (Try.prog.info? 3).map (fun i => (i.zero, i.size, i.bytes)) = some (some (.int .i64 0), 1, 8) := by kernel_rfl
theorem info49 : (Try.prog.info? 49).map (fun i => (i.zero, i.size, i.bytes)) = some (some (.slice none 0 0), 1, 24) := by kernel_rfl
theorem own_keep {S : List Nat} {w w' : World} {base : Nat} {e : TypeId} {size : Nat} {v : Value} {n : Nat} {xs : List Value} (h : w.ownsRow base e size v n xs) (hk : Keep S w w') (hS : ∀ k, v.ownBlock = some k → k ∉ S) : w'.ownsRow base e size v n xs := by
  refine ⟨h.1, ?_⟩
  rcases h.2 with hn | ⟨g, cap, cur, rfl, hb, hg, rest⟩
  · exact .inl hn
  · exact .inr ⟨g, cap, cur, rfl, hb, hk.heap hg (hS g rfl), rest⟩
theorem own_slice {w : World} {base : Nat} {e : TypeId} {size : Nat} {v : Value} {n : Nat} {xs : List Value} (h : w.ownsRow base e size v n xs) : ∃ ao c, v = .slice ao n c := by
  rcases h.2 with ⟨rfl, rfl⟩ | ⟨g, cap, cur, rfl, _⟩
  · exact ⟨none, 0, rfl⟩
  · exact ⟨_, _, rfl⟩

/-- The edges that start at v, among the first k. -/
def outL (E : List Edg) : Nat → Nat → List Nat
  | 0, _ => []
  | k + 1, v => if v = (E.getD k ⟨0, 0, 0⟩).s then outL E k v ++ [k] else outL E k v
theorem outL_mem (E : List Edg) (v i : Nat) : ∀ k, i ∈ outL E k v ↔ i < k ∧ (E.getD i ⟨0, 0, 0⟩).s = v
  | 0 => by simp [outL]
  | k + 1 => by
    have ih := outL_mem E v i k
    rw [outL]
    split
    · rename_i h
      rw [List.mem_append, ih, List.mem_singleton]
      constructor
      · rintro (⟨h1, h2⟩ | h1)
        · exact ⟨by omega, h2⟩
        · subst h1; exact ⟨by omega, h.symm⟩
      · rintro ⟨h1, h2⟩
        by_cases hk : i = k
        · exact .inr hk
        · exact .inl ⟨by omega, h2⟩
    · rename_i h
      rw [ih]
      constructor
      · rintro ⟨h1, h2⟩; exact ⟨by omega, h2⟩
      · rintro ⟨h1, h2⟩
        refine ⟨?_, h2⟩
        by_cases hk : i = k
        · subst hk; exact absurd h2.symm h
        · omega
theorem outL_len (E : List Edg) (v : Nat) : ∀ k, (outL E k v).length ≤ k
  | 0 => by simp [outL]
  | k + 1 => by
    have ih := outL_len E v k
    rw [outL]
    split
    · rw [List.length_append, List.length_singleton]; omega
    · omega

/-- The rows of rows in memory: each of its own block, apart from the others. -/
structure OutsR (w : World) (base g n : Nat) (ls : Nat → List Nat) (sl : Nat → Value) : Prop where
  row : RowF w g 49 id sl n
  own : ∀ v, v < n → w.ownsRow base 3 1 (sl v) (ls v).length ((ls v).map natC)
  sep : ∀ u v, u < n → v < n → ∀ b, (sl u).ownBlock = some b → (sl v).ownBlock = some b → u = v
theorem OutsR.ext {w w' : World} {base g n : Nat} {ls : Nat → List Nat} {sl : Nat → Value} (h : OutsR w base g n ls sl) (hx : Ext w w') : OutsR w' base g n ls sl :=
  ⟨h.row.ext hx, fun v hv => own_keep (h.own v hv) hx (fun _ _ => by simp), h.sep⟩

set_option maxRecDepth 20000 in
set_option maxHeartbeats 2000000 in
theorem outs_any (n : Nat) (hn4 : n ≤ 400) (ao : Option Addr) (cap : Nat) (E : List Edg) (hlen : E.length ≤ 11728124029269) (hE : ∀ e ∈ E, e.s < n ∧ e.d < n ∧ e.w < 4294967296) (w : World) (he : EdgesAt w ao E) :
    Calls Try.prog 57 #[.int .u32 n, .slice ao E.length cap] w fun e w' => ∃ sl, e = .returned (.slice (some ⟨w.heap.size, 0, none⟩) n n) ∧ Ext w w' ∧ OutsR w' (w.heap.size + 1) w.heap.size n (outL E E.length) sl := by
  obtain ⟨j0, hj, hy0, hy1, hy2⟩ := info_parts info49
  have hmk := fun W => run_make_rowN (P := Try.prog) 132 49 j0 _ Try.underlying132 hj hy0 .u32 .u32 n n (Nat.le_refl _) (by rw [hy2]; omega) (by omega) W
  rw [hy1] at hmk
  obtain ⟨i0, hi, hz0, hz1, hz2⟩ := info_parts info3
  have H0 : Hid (OutsR (w.alloc (.cells (madeCells #[.slice none 0 0] n) 49)) (w.heap.size + 1) w.heap.size n (outL E 0) (fun _ => .slice none 0 0)) := Lib.hid ⟨RowF.made (c := id) (.slice none 0 0) w 49 n, fun v _ => World.ownsRow_nil _ _ _ _, fun _ _ _ _ b h => by cases h⟩
  have HI := Lib.hid hi
  have HZ0 := Lib.hid hz0
  have HZ1 := Lib.hid hz1
  have HZ2 := Lib.hid hz2
  have HE := Lib.hid he
  have HED := Lib.hid hE
  clear hj hy0 hy1 hy2 hi hz0 hz1 hz2 he hE
  go_enter Try.func57, Try.ntmps57
  go_wp2
  clear hmk
  go_loopg [6] E.length (fun m v wr => ∃ (j : Nat) (sl : Nat → Value), j + m = E.length ∧ v = .int .i64 j ∧ Ext w wr ∧ OutsR wr (w.heap.size + 1) w.heap.size n (outL E j) sl)
  case atStart => exact ⟨0, _, by omega, rfl, Ext.alloc _ _, H0.out⟩
  clear H0
  case round =>
    obtain ⟨j, sl, hj, rfl, hX, hO⟩ := hrel
    have lg := hO.row.lt
    by_cases hjl : j < E.length
    · have hjj : (j : Int) < (E.length : Int) := by omega
      obtain ⟨ge, rfl, hge⟩ := HE.out (by intro h; subst h; simp at hjl)
      have hge1 := hge.ext hX
      have lge := hge1.lt
      have lge0 := hge.lt
      obtain ⟨hxs, hxd, hxw⟩ := HED.out E[j] (List.getElem_mem hjl)
      have e0 := hge1.cell hjl (j := 0) (by omega) (v := .int .u32 (E[j].s : Nat)) rfl
      simp only [Nat.add_zero] at e0
      have hgd : E.getD j ⟨0, 0, 0⟩ = E[j] := by simp [List.getD_eq_getElem?_getD, List.getElem?_eq_getElem hjl]
      have hol : ∀ v, outL E (j + 1) v = if v = E[j].s then outL E j v ++ [j] else outL E j v := fun v => by rw [outL, hgd]
      have hll := outL_len E E[j].s j
      generalize E[j] = x at *
      have hxsi : (x.s : Int) < (n : Int) := by omega
      have q0 := hO.row.get hxs
      have how := hO.own x.s hxs
      obtain ⟨ao, c, hsv⟩ := own_slice how
      have hsv' := hsv
      simp only [id] at q0
      rw [hsv] at q0 how
      have HOL := Lib.hid hol
      have HO := Lib.hid hO
      have HX := Lib.hid hX
      have HOW := Lib.hid how
      have HSV := Lib.hid hsv
      clear hge hge1 hgd hol hO hX how hsv hsv'
      go_wp2_with (at_builtin; refine wpList_append_own_at _ rfl (.tmp 26) (.tmp 28) 49 rfl (w.heap.size + 1) 3 i0 (.int .i64 0) 1 8 Try.underlying49 HI.out HZ0.out HZ1.out HZ2.out rfl (by omega) _ (outL E j x.s).length ((outL E j x.s).map natC) rfl (HOW.out.alloc _) ⟨wr.heap.size, 0, none⟩ 1 1 [.int .i64 (j : Int)] rfl rfl (cell_one_new _ _ _) ?c1 ?c2 ?c3 ?c4 ?c5)
      case c1 => simp [Value.oneCell']
      case c2 => simp only [maxLen]; omega
      case c3 => omega
      case c4 => simp; omega
      case c5 =>
        intro v' w1 hown hgr hnil hsame
        clear hnil
        obtain ⟨ao2, c3, rfl⟩ := own_slice hown
        have how2 := HO.out.own
        have hbk : ∀ k, (Value.slice ao (outL E j x.s).length c).ownBlock = some k → w.heap.size + 1 ≤ k ∧ k < wr.heap.size := HOW.out.lt
        rw [← HSV.out] at hgr hsame hbk
        have hK : Keep (sl x.s).ownBlock.toList wr w1 := Keep.grown (Keep.alloc (Keep.refl _ wr) _) hgr (fun k hk => .inl (by rw [hk]; simp))
        have hX1 : Ext w w1 := Keep.trans HX.out hK (fun k hk hlt => by
          have := hbk k (by simpa using hk)
          omega)
        have hrow1 : RowF w1 w.heap.size 49 id sl n := HO.out.row.keep hK (fun hk => by
          have := hbk _ (by simpa using hk)
          omega)
        have hown1 : ∀ v, v < n → v ≠ x.s → w1.ownsRow (w.heap.size + 1) 3 1 (sl v) (outL E j v).length ((outL E j v).map natC) := fun v hv hne => own_keep (how2 v hv) hK (fun k hk hk2 => hne (HO.out.sep v x.s hv hxs k hk (by simpa using hk2)))
        have hlt1 := hrow1.lt
        have fz := hrow1.frozen x.s
        have q1 := hrow1.get hxs
        simp only [id] at q1
        rw [HSV.out] at q1
        have hset := hrow1.set hxs (.slice ao2 ((outL E j x.s).length + 1) c3)
        have hKS := Keep.setCell (S := [w.heap.size]) (Keep.refl [w.heap.size] w1) (p := ⟨w.heap.size, x.s, none⟩) (.inl (by simp)) (.slice ao2 ((outL E j x.s).length + 1) c3)
        have hO2 : OutsR (w1.setCell ⟨w.heap.size, x.s, none⟩ (.slice ao2 ((outL E j x.s).length + 1) c3)) (w.heap.size + 1) w.heap.size n (outL E (j + 1)) (fun v => if v = x.s then .slice ao2 ((outL E j x.s).length + 1) c3 else sl v) := by
          refine ⟨hset, fun v hv => ?_, fun u v hu hv b h1 h2 => ?_⟩
          · rw [HOL.out v]
            by_cases hvx : v = x.s
            · rw [if_pos hvx, if_pos hvx, hvx, List.length_append, List.map_append]
              refine own_keep hown hKS (fun k hk hk2 => ?_)
              have := (hown.lt k hk).1
              simp at hk2
              omega
            · rw [if_neg hvx, if_neg hvx]
              refine own_keep (hown1 v hv hvx) hKS (fun k hk hk2 => ?_)
              have := ((hown1 v hv hvx).lt k hk).1
              simp at hk2
              omega
          · by_cases hux : u = x.s
            · by_cases hvx : v = x.s
              · omega
              · rw [if_pos hux] at h1
                rw [if_neg hvx] at h2
                rw [h1] at hsame
                rcases hsame with hs | hs
                · exact absurd (HO.out.sep v x.s hv hxs b h2 hs.symm) hvx
                · have h3 := ((how2 v hv).lt b h2).2
                  have h4 := Option.some.inj hs
                  omega
            · rw [if_neg hux] at h1
              by_cases hvx : v = x.s
              · rw [if_pos hvx] at h2
                rw [h2] at hsame
                rcases hsame with hs | hs
                · exact absurd (HO.out.sep u x.s hu hxs b h1 hs.symm) hux
                · have h3 := ((how2 u hu).lt b h1).2
                  have h4 := Option.some.inj hs
                  omega
              · rw [if_neg hvx] at h2
                exact HO.out.sep u v hu hv b h1 h2
        have HO2 := Lib.hid hO2
        have HX2 := Lib.hid (Ext.trans' hX1 hKS (by simp))
        clear hO2 hKS hset hown1 hrow1 hX1 hK hgr hsame hbk how2 hown HOW HSV HO HX HOL
        go_wp2
        go_roundg (gk - 1)
        case measure => omega
        case rel => exact ⟨j + 1, _, by omega, by go_num, HX2.out, HO2.out⟩
    · have hjE : j = E.length := by omega
      subst hjE
      have HO := Lib.hid hO
      have HX := Lib.hid hX
      clear hO hX
      go_wp2
      go_ret
      exact ⟨sl, rfl, HX.out, HO.out⟩
end Go.Proofs.Ytalpjipopipncaa
