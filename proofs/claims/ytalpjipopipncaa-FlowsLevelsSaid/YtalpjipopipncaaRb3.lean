/- The walk of the reference's levels. Conditions: those of each theorem. -/
import Derived.Test.YtalpjipopipncaaRb2
import Derived.Test.YtalpjipopipncaaPq1
import Derived.Test.YtalpjipopipncaaSeq
namespace Go.Proofs.Ytalpjipopipncaa
open Go Go.RowKit

def u32v (i : Nat) : Value := .int .u32 (i : Int)
/-- The levels and the queue in memory, since the world wb. -/
structure QMem (wb wr : World) (gA n : Nat) (A : Nat → Int) (qv : Value) (Q : List Nat) : Prop where
  keep : Keep [gA] wb wr
  row : RowF wr gA 33 u64V A n
  own : wr.ownsRow wb.heap.size 25 1 qv Q.length (Q.map u32v)
section
variable {wb wr w' : World} {gA n : Nat} {A : Nat → Int} {qv v' : Value} {Q : List Nat}
theorem QMem.set (h : QMem wb wr gA n A qv Q) (hg : gA < wb.heap.size) {v : Nat} (hv : v < n) (a : Int) : QMem wb (wr.setCell ⟨gA, v, none⟩ (.int .u64 a)) gA n (fun i => if i = v then a else A i) qv Q :=
  ⟨Keep.setCell h.keep (p := ⟨gA, v, none⟩) (.inl (by simp)) _, h.row.set hv a, own_keep h.own (Keep.setCell (S := [gA]) (Keep.refl [gA] wr) (p := ⟨gA, v, none⟩) (.inl (by simp)) (.int .u64 a)) (fun k hk hk2 => by
    have := (h.own.lt k hk).1
    simp at hk2
    omega)⟩
theorem QMem.grow (h : QMem wb wr gA n A qv Q) (hg : gA < wb.heap.size) (o : Obj) (v : Nat) (hgr : (wr.alloc o).grownBy w' qv.ownBlock) (hown : w'.ownsRow wb.heap.size 25 1 v' (Q.length + 1) (Q.map u32v ++ [.int .u32 (v : Int)])) : QMem wb w' gA n A v' (Q ++ [v]) := by
  have hK : Keep qv.ownBlock.toList wr w' := Keep.grown (Keep.alloc (Keep.refl _ wr) o) hgr (fun k hk => .inl (by rw [hk]; simp))
  refine ⟨Keep.grown (Keep.alloc h.keep o) hgr (fun k hk => .inr (h.own.lt k hk).1), h.row.keep hK (fun hk => ?_), ?_⟩
  · have := (h.own.lt gA (by simpa using hk)).1
    omega
  · rw [List.length_append, List.length_singleton, List.map_append]
    exact hown
end
theorem own_some {w : World} {base : Nat} {e : TypeId} {v : Value} {n : Nat} {xs : List Value} (h : w.ownsRow base e 1 v n xs) (hn : 0 < n) : ∃ b c, v = .slice (some ⟨b, 0, none⟩) n c ∧ b < w.heap.size ∧ ∀ j u, xs[j]? = some u → w.cell? ⟨b, j, none⟩ = some u := by
  rcases h.2 with ⟨_, h0⟩ | ⟨g, cap, cur, rfl, hb, hg, rest⟩
  · omega
  · refine ⟨g, cap, rfl, (Array.getElem?_eq_some_iff.1 hg).1, fun j u hu => ?_⟩
    have := h.cells (g := g) rfl j u hu
    rwa [add_at, Nat.zero_add] at this
theorem take_next {zs : List Nat} {k : Nat} (h : k < zs.length) : zs.take (k + 1) = zs.take k ++ [zs.getD k 0] := by
  rw [List.take_add_one, List.getD_eq_getElem?_getD, List.getElem?_eq_getElem h]
  rfl

set_option maxRecDepth 20000 in
set_option maxHeartbeats 4000000 in
theorem levels_any (n : Nat) (hn4 : n ≤ 400) (zs : List Nat) (m : Nat) (hm : zs.length = m) (hml : m ≤ 1000000) (hz : ∀ z ∈ zs, z < n) (gq cq : Nat) (ao : Option Addr) (cap : Nat) (E : List Edg) (hlen : E.length ≤ 11728124029269) (hE : ∀ e ∈ E, e.s < n ∧ e.d < n ∧ e.w < 4294967296)
    (D : Nat → Int) (hD : LevD E n zs D) (w : World) (he : EdgesAt w ao E) (hR : Row w gq 25 1 u32C zs) :
    Calls Try.prog 42 #[.int .u32 n, .slice (some ⟨gq, 0, none⟩) m cq, .slice ao E.length cap] w fun e w' => ∃ g : Nat, e = .returned (.slice (some ⟨g, 0, none⟩) n n) ∧ Ext w w' ∧ w.heap.size ≤ g ∧ RowF w' g 33 u64V D n := by
  obtain ⟨i0, hi, hz0, hz1, hz2⟩ := info_parts info25
  have HI := Lib.hid hi
  have HZ0 := Lib.hid hz0
  have HZ1 := Lib.hid hz1
  have HZ2 := Lib.hid hz2
  have HOU := Lib.hid (outs_any n hn4 ao cap E hlen hE w he)
  have HE := Lib.hid he
  have HED := Lib.hid hE
  have HD := Lib.hid hD
  have HR := Lib.hid hR
  have HZ := Lib.hid hz
  have HM := Lib.hid hm
  clear hi hz0 hz1 hz2 he hE hD hR hz hm
  go_enter Try.func42, Try.ntmps42
  go_wp2_with fail
  go_at_call 57
  refine HOU.out.mono ?_
  rintro e w1 ⟨sl, rfl, hX1, hO1⟩
  have HX1 := Lib.hid hX1
  have HO1 := Lib.hid hO1
  clear hX1 hO1 HOU
  go_wp2_with fail
  go_at_call 43
  refine (none_any n hn4 w1).mono ?_
  rintro e wb ⟨gA, rfl, hX2, hgA, hA⟩
  have hs1 : w.heap.size ≤ w1.heap.size := HX1.out.size
  have hgb : gA < wb.heap.size := hA.lt
  have HQ0 : Hid (QMem wb wb gA n (fun _ => U64) (.slice none 0 0) []) := Lib.hid ⟨Keep.refl _ _, hA, World.ownsRow_nil _ _ _ _⟩
  have HOb := Lib.hid (HO1.out.ext hX2)
  have hgO : w.heap.size < w1.heap.size := HO1.out.row.lt
  have hslb : ∀ v, v < n → ∀ b, (sl v).ownBlock = some b → b ≠ gA := fun v hv b hb => by
    have := ((HO1.out.own v hv).lt b hb).2
    omega
  have HSL := Lib.hid hslb
  have HXb := Lib.hid (Ext.trans HX1.out hX2)
  have hne : gq ≠ gA := by have := HR.out.lt; omega
  clear hX2 hA hslb HO1 HX1
  go_wp2
  go_loopg [9, 10] m (fun mm qv iv wr => ∃ (k : Nat) (Q : List Nat) (A : Nat → Int), k + mm = m ∧ iv = .int .i64 k ∧ QMem wb wr gA n A qv Q ∧ SInv n (zs.take k) A Q)
  case atStart => exact ⟨0, [], _, by omega, rfl, HQ0.out, SInv.nil n⟩
  clear HQ0
  case round =>
    obtain ⟨k, Q, A, hk, rfl, hM, hS⟩ := hrel
    obtain ⟨ao2, c2, hqv⟩ := own_slice hM.own
    subst hqv
    have lA := hM.row.lt
    by_cases hkm : k < m
    · have hkk : (k : Int) < (m : Int) := by omega
      have hkz : k < zs.length := by rw [HM.out]; exact hkm
      have hRr := (HR.out.ext HXb.out).keep hM.keep (by simp; exact hne)
      have q0 := row_u32 hRr hkz
      have lq := hRr.lt
      have hzn := HZ.out _ (getD_in hkz)
      have htk := take_next hkz
      generalize zs.getD k 0 = z at *
      have hzi : (z : Int) < (n : Int) := by omega
      have q1 := hM.row.get hzn
      simp only [u64V] at q1
      have HMM := Lib.hid hM
      have HS := Lib.hid hS
      have HTK := Lib.hid htk
      clear hRr hM hS htk
      by_cases hAz : A z = U64
      · have q2 : (A z == 18446744073709551615) = true := by simpa using show A z = 18446744073709551615 from hAz
        have hSN := HS.out.push hzn hAz
        rw [← HTK.out] at hSN
        have hM1 := HMM.out.set hgb hzn 0
        have fz := HMM.out.row.frozen z
        have HSN := Lib.hid hSN
        have HM1 := Lib.hid hM1
        clear hSN hM1 hAz HS HTK HMM
        go_upto_region 9 with fail
        have q0' : (wr.setCell ⟨gA, z, none⟩ (.int .u64 0)).cell? ⟨gq, k, none⟩ = some (.int .u32 (z : Nat)) := by simp [go_sem, q0]
        have lq' : gq < (wr.setCell ⟨gA, z, none⟩ (.int .u64 0)).heap.size := by simp; exact lq
        change Code.wp _ _ _ _ (wr.setCell ⟨gA, z, none⟩ (.int .u64 0))
        generalize wr.setCell ⟨gA, z, none⟩ (.int .u64 0) = W1 at *
        clear q0 q1 q2 lA lq fz
        have hQn : Q.length ≤ 1000000 := by
          have h1 := HSN.out.cnt
          have h2 := List.countP_le_length (p := fun v => decide ((if v = z then (0 : Int) else A v) ≠ U64)) (l := List.range n)
          rw [List.length_range] at h2
          simp at h1 h2
          omega
        have hbs : wb.heap.size ≤ W1.heap.size := HM1.out.keep.size
        go_wp2_with (at_builtin; refine wpList_append_own_at _ rfl (.tmp 40) (.tmp 45) 70 rfl wb.heap.size 25 i0 (.int .u32 0) 1 4 Try.underlying70 HI.out HZ0.out HZ1.out HZ2.out rfl (by omega) _ Q.length (Q.map u32v) rfl (HM1.out.own.alloc _) ⟨W1.heap.size, 0, none⟩ 1 1 [.int .u32 (z : Int)] rfl rfl (cell_one_new _ _ _) ?c1 ?c2 ?c3 ?c4 ?c5)
        case c1 => simp [Value.oneCell']
        case c2 => simp only [maxLen]; omega
        case c3 => omega
        case c4 => simp; omega
        case c5 =>
          intro v' w3 hown hgr hnil hsame
          clear hnil hsame
          have HM2 := Lib.hid (HM1.out.grow hgb _ z hgr hown)
          clear hown hgr
          go_wp2
          go_roundg (gk - 1)
          case measure => omega
          case rel => exact ⟨k + 1, _, _, by omega, by go_num, HM2.out, HSN.out⟩
      · have q2 : (A z == 18446744073709551615) = false := by simpa using show ¬ A z = 18446744073709551615 from hAz
        have hSN := HS.out.skip hzn hAz
        rw [← HTK.out] at hSN
        have HSN := Lib.hid hSN
        clear hSN hAz HS HTK
        go_wp2
        go_roundg (gk - 1)
        case measure => omega
        case rel => exact ⟨k + 1, _, _, by omega, by go_num, HMM.out, HSN.out⟩
    · have hkm2 : k = m := by omega
      subst hkm2
      rw [show zs.take k = zs by rw [← HM.out]; exact List.take_length] at hS
      have HI0 := Lib.hid (hS.inv HD.out)
      have HMM := Lib.hid hM
      clear hM hS
      clear HM HZ HR lA hne
      have HEX : Hid (∀ x ∈ E, x.s < n ∧ x.d < n) := Lib.hid (fun x hx => ⟨(HED.out x hx).1, (HED.out x hx).2.1⟩)
      have HOL := Lib.hid (fun v i => outL_mem E v i E.length)
      have HLL := Lib.hid (fun v => outL_len E v E.length)
      go_wp2
      go_loopg [9, 11] n (fun mm qv hv wr => ∃ (h : Nat) (Q : List Nat) (A : Nat → Int), h + mm = n ∧ hv = .int .i64 h ∧ QMem wb wr gA n A qv Q ∧ QInv E n zs D h A Q)
      case atStart => exact ⟨0, Q, A, by omega, rfl, HMM.out, HI0.out⟩
      clear HMM HI0 Q A
      case round =>
        obtain ⟨h, Q, A, hh, rfl, hM, hI⟩ := hrel
        have hQn := hI.len
        have hle := hI.hle
        obtain ⟨ao2, c2, hqv⟩ := own_slice hM.own
        by_cases hlt : h < Q.length
        · have hhi : (h : Int) < (Q.length : Int) := by omega
          obtain ⟨bq, cq2, hqs, lbq, hcl⟩ := own_some hM.own (by omega)
          rw [hqs] at hqv hM
          subst hqs
          clear hqv
          have q0 := hcl h (.int .u32 ((Q.getD h 0 : Nat) : Int)) (by rw [List.getElem?_map, List.getD_eq_getElem?_getD, List.getElem?_eq_getElem hlt]; rfl)
          have hun := hI.lt _ (getD_in hlt)
          obtain ⟨u, hu⟩ : ∃ u, u = Q.getD h 0 := ⟨_, rfl⟩
          rw [← hu] at q0 hun
          have HMM := Lib.hid hM
          have HIN := Lib.hid hI
          have HU := Lib.hid hu
          obtain ⟨gk0, hgk0⟩ : ∃ g0, g0 = gk := ⟨gk, rfl⟩
          subst hgk0
          clear hcl hM hI hu
          go_wp2
          go_loopg [9, 13] (outL E E.length u).length (fun mm qv jv wv => ∃ (j : Nat) (Q' : List Nat) (A' : Nat → Int), j + mm = (outL E E.length u).length ∧ jv = .int .i64 j ∧ QMem wb wv gA n A' qv Q' ∧ QInv E n zs D h A' Q' ∧ (h < Q'.length ∧ Q'.getD h 0 = u) ∧ ∀ i, i < j → (E.getD ((outL E E.length u).getD i 0) ⟨0, 0, 0⟩).d ∈ Q')
          case atStart => exact ⟨0, Q, A, by omega, rfl, HMM.out, HIN.out, ⟨hlt, HU.out.symm⟩, fun i hi => by omega⟩
          clear HMM HIN HU q0 lbq hhi hlt hQn hle
          case round =>
            obtain ⟨j, Q, A, hj, rfl, hM, hI, ⟨hlt, hu⟩, hdone⟩ := hrel
            have hrO := HOb.out.row.keep hM.keep (by simp; omega)
            have lO := hrO.lt
            have q0 := hrO.get hun
            simp only [id] at q0
            have hui : (u : Int) < (n : Int) := by omega
            have hoO := own_keep (HOb.out.own u hun) hM.keep (fun k hk hk2 => by
              have := HSL.out u hun k hk
              simp at hk2
              exact this hk2)
            obtain ⟨ao3, c3, hsl⟩ := own_slice hoO
            obtain ⟨ao4, c4, hqv⟩ := own_slice hM.own
            subst hqv
            have lA := hM.row.lt
            by_cases hjl : j < (outL E E.length u).length
            · have hjj : (j : Int) < ((outL E E.length u).length : Int) := by omega
              have hll := HLL.out u
              obtain ⟨bo, c5, hsl2, lbo, hcl⟩ := own_some hoO (by omega)
              rw [hsl2] at q0
              have q1 := hcl j (.int .i64 (((outL E E.length u).getD j 0 : Nat) : Int)) (by rw [List.getElem?_map, List.getD_eq_getElem?_getD, List.getElem?_eq_getElem hjl]; rfl)
              obtain ⟨hel, hes⟩ := (HOL.out u _).1 (getD_in hjl)
              have hjn : ∀ i, i < j + 1 → i < j ∨ i = j := fun i hi => by omega
              obtain ⟨e, he⟩ : ∃ e, e = (outL E E.length u).getD j 0 := ⟨_, rfl⟩
              have HEJ := Lib.hid he
              rw [← he] at q1 hel hes
              obtain ⟨ge, rfl, hge⟩ := HE.out (by intro h; subst h; simp at hel)
              have hgeA : ge ≠ gA := by have := hge.lt; omega
              have hge1 := (hge.ext HXb.out).keep hM.keep (by simp; exact hgeA)
              have lge := hge1.lt
              have hei : (e : Int) < (E.length : Int) := by omega
              have hxE := List.getElem_mem hel
              obtain ⟨hxs, hxd, hxw⟩ := HED.out E[e] hxE
              have e1 := hge1.cell hel (j := 1) (by omega) (v := .int .u32 (E[e].d : Nat)) rfl
              have hgd : E.getD e ⟨0, 0, 0⟩ = E[e] := by simp [List.getD_eq_getElem?_getD, List.getElem?_eq_getElem hel]
              rw [hgd] at hes
              have HDN : Hid (∀ i, i < j → (E.getD ((outL E E.length u).getD i 0) ⟨0, 0, 0⟩).d ∈ Q) := Lib.hid hdone
              have HGD := Lib.hid hgd
              generalize E[e] = x at *
              have hxdi : (x.d : Int) < (n : Int) := by omega
              have q2 := hM.row.get hxd
              have q3 := hM.row.get hun
              simp only [u64V] at q2 q3
              have HMM := Lib.hid hM
              have HIN := Lib.hid hI
              have HUU := Lib.hid hu
              have hQn := hI.len
              have hAu := hI.eq _ (getD_in hlt)
              rw [hu] at hAu
              have hDu := (HD.out.lv u hun).resolve_left hAu.2
              have hwu : IntKind.u64.wrap (A u + 1) = A u + 1 := by rw [u64_eq, hAu.1]; omega
              clear hge hge1 hrO hoO hcl hsl hsl2 hdone hgd hM hI hu he hAu hDu
              by_cases hAz : A x.d = U64
              · have q5 : (A x.d == 18446744073709551615) = true := by simpa using show A x.d = 18446744073709551615 from hAz
                have hIN2 := HIN.out.push HD.out HEX.out hn4 hlt hxE (by rw [HUU.out]; exact hes) hAz
                have hM1 := HMM.out.set hgb hxd (A u + 1)
                rw [hes] at hIN2
                have fz := HMM.out.row.frozen x.d
                have HI2 := Lib.hid hIN2
                have HM1 := Lib.hid hM1
                have HUQ : Hid ((Q ++ [x.d]).getD h 0 = u) := Lib.hid (by rw [getD_app hlt]; exact HUU.out)
                clear hIN2 hM1 hAz HIN HMM HUU hes
                go_upto_region 20 with fail
                change Code.wp _ _ _ _ (wr.setCell ⟨gA, x.d, none⟩ (.int .u64 (A u + 1)))
                generalize wr.setCell ⟨gA, x.d, none⟩ (.int .u64 (A u + 1)) = W1 at *
                clear q0 q1 q2 q3 q5 lA fz e1 lge lbo lO hwu
                have hbs : wb.heap.size ≤ W1.heap.size := HM1.out.keep.size
                go_wp2_with (at_builtin; refine wpList_append_own_at _ rfl (.tmp 90) (.tmp 92) 70 rfl wb.heap.size 25 i0 (.int .u32 0) 1 4 Try.underlying70 HI.out HZ0.out HZ1.out HZ2.out rfl (by omega) _ Q.length (Q.map u32v) rfl (HM1.out.own.alloc _) ⟨W1.heap.size, 0, none⟩ 1 1 [.int .u32 (x.d : Int)] rfl rfl (cell_one_new _ _ _) ?c1 ?c2 ?c3 ?c4 ?c5)
                case c1 => simp [Value.oneCell']
                case c2 => simp only [maxLen]; omega
                case c3 => omega
                case c4 => simp; omega
                case c5 =>
                  intro v' w3 hown hgr hnil hsame
                  clear hnil hsame
                  have HM2 := Lib.hid (HM1.out.grow hgb _ x.d hgr hown)
                  clear hown hgr
                  go_wp2
                  go_roundg (gk - 1)
                  case measure => omega
                  case rel => exact ⟨j + 1, _, _, by omega, by go_num, HM2.out, HI2.out, ⟨by simp; omega, HUQ.out⟩, fun i hi => by
                    rcases hjn i hi with h1 | h1
                    · exact List.mem_append_left _ (HDN.out i h1)
                    · rw [h1, ← HEJ.out, HGD.out]; simp⟩
              · have q5 : (A x.d == 18446744073709551615) = false := by simpa using show ¬ A x.d = 18446744073709551615 from hAz
                have HIQ := Lib.hid ((HIN.out.mem _ hxd).1 hAz)
                clear hAz
                go_wp2
                go_roundg (gk - 1)
                case measure => omega
                case rel => exact ⟨j + 1, _, _, by omega, by go_num, HMM.out, HIN.out, ⟨hlt, HUU.out⟩, fun i hi => by
                  rcases hjn i hi with h1 | h1
                  · exact HDN.out i h1
                  · rw [h1, ← HEJ.out, HGD.out]; exact HIQ.out⟩
            · rw [hsl] at q0
              have hst := hI.step hlt (fun x hx hxs => by
                obtain ⟨i, hi, rfl⟩ := List.getElem_of_mem hx
                have hgi : E.getD i ⟨0, 0, 0⟩ = E[i] := by simp [List.getD_eq_getElem?_getD, List.getElem?_eq_getElem hi]
                have h1 : i ∈ outL E E.length u := (HOL.out u i).2 ⟨hi, by rw [hgi, hxs, hu]⟩
                obtain ⟨t, ht, ht2⟩ := in_getD h1
                have h2 := hdone t (by omega)
                rw [ht2, hgi] at h2
                exact h2)
              have hQn := hI.len
              have HMM := Lib.hid hM
              have HIN := Lib.hid hst
              have hjeq : ¬ (j : Int) < ((outL E E.length u).length : Int) := by omega
              clear hst hM hI hdone hoO hrO hsl
              go_wp2
              go_roundg (gk0 - 1)
              case measure => omega
              case rel => exact ⟨h + 1, Q, A, by omega, by go_num, HMM.out, HIN.out⟩
        · subst hqv
          have hhQ : h = Q.length := by omega
          have hhi : ¬ (h : Int) < (Q.length : Int) := by omega
          rw [hhQ] at hI
          have hfin := hI.fin HD.out HEX.out hn4
          have HF := Lib.hid (hM.row.congr (f' := D) hfin)
          have HX := Lib.hid (Ext.trans' HXb.out hM.keep (by simp; omega))
          clear hM hI hfin
          go_wp2
          go_ret
          exact ⟨gA, rfl, HX.out, by omega, HF.out⟩
end Go.Proofs.Ytalpjipopipncaa
