/- The walk of the engine's round: what it makes of a run. Conditions: those of round_any. -/
import Derived.Test.YtalpjipopipncaaBeg
import Derived.Deep.DeepCutAuto
namespace Go.Proofs.Ytalpjipopipncaa
open Go Go.RowKit

/-- An update comes to a vertex. -/
def gatF (G : Prg) (nx : List St × Int) (i : Nat) (a : Int) : List St × Int := (nx.1.set i (monS G.ma (nx.1.getD i zeroS) G.a a), u64p nx.2)
/-- An edge is gone along forwards, and backwards if the program asks for it. -/
def fwdF (G : Prg) (ctl : St) (S : List St) (x : Edg) (nx : List St × Int) : List St × Int :=
  if (G.scatter ctl (S.getD x.s zeroS) x false).2.2.1 then gatF G nx x.d (G.scatter ctl (S.getD x.s zeroS) x false).1 else nx
def bckF (G : Prg) (ctl : St) (S : List St) (x : Edg) (nx : List St × Int) : List St × Int :=
  if G.both then (if (G.scatter ctl (S.getD x.d zeroS) x true).2.2.1 then gatF G nx x.s (G.scatter ctl (S.getD x.d zeroS) x true).1 else nx) else nx
def scatT (G : Prg) (ctl : St) (S : List St) (up : Int) (E : List Edg) : Nat → List St × Int
  | 0 => (S, up)
  | k + 1 => bckF G ctl S (E.getD k ⟨0, 0, 0⟩) (fwdF G ctl S (E.getD k ⟨0, 0, 0⟩) (scatT G ctl S up E k))
theorem gatF_length (G : Prg) (nx : List St × Int) (i : Nat) (a : Int) : (gatF G nx i a).1.length = nx.1.length := by simp [gatF]
theorem fwdF_length (G : Prg) (ctl : St) (S : List St) (x : Edg) (nx : List St × Int) : (fwdF G ctl S x nx).1.length = nx.1.length := by
  unfold fwdF; split <;> simp [gatF]
theorem bckF_length (G : Prg) (ctl : St) (S : List St) (x : Edg) (nx : List St × Int) : (bckF G ctl S x nx).1.length = nx.1.length := by
  unfold bckF; split <;> (try split) <;> simp [gatF]
theorem scatT_length (G : Prg) (ctl : St) (S : List St) (up : Int) (E : List Edg) : ∀ k, (scatT G ctl S up E k).1.length = S.length
  | 0 => rfl
  | k + 1 => by rw [scatT, bckF_length, fwdF_length, scatT_length]

/-- What the vertices become: the first k of them. -/
def appV (G : Prg) (ctl agg : St) (NX : List St) (v : Nat) : St × Bool := G.apply ctl agg v (NX.getD v zeroS)
def apT (G : Prg) (ctl agg : St) (NX S : List St) : Nat → List St
  | 0 => S
  | k + 1 => (apT G ctl agg NX S k).set k (cutS (appV G ctl agg NX k).1 G.words)
def chT (G : Prg) (ctl agg : St) (NX : List St) : Nat → Int
  | 0 => 0
  | k + 1 => if (appV G ctl agg NX k).2 then u64p (chT G ctl agg NX k) else chT G ctl agg NX k
theorem apT_length (G : Prg) (ctl agg : St) (NX S : List St) : ∀ k, (apT G ctl agg NX S k).length = S.length
  | 0 => rfl
  | k + 1 => by rw [apT, List.length_set, apT_length]

/-- A run, as plain data. -/
structure RunP where
  S : List St
  agg : St
  ctl : St
  rounds : Int
  up : Int

def roundF (G : Prg) (E : List Edg) (r : RunP) : RunP × Bool :=
  let nx := scatT G r.ctl r.S r.up E E.length
  let S' := apT G r.ctl r.agg nx.1 r.S r.S.length
  let ch := chT G r.ctl r.agg nx.1 r.S.length
  let agg' := foldT G r.ctl S' r.S.length
  let t := G.turn r.ctl agg' ch (r.rounds + 1)
  (⟨S', agg', t.1, r.rounds + 1, nx.2⟩, t.2)

/-- No edge's offer is an error. -/
def NoErr (G : Prg) (E : List Edg) (r : RunP) : Prop :=
  ∀ x ∈ E, (G.scatter r.ctl (r.S.getD x.s zeroS) x false).2.2.2 = 0 ∧ (G.both = true → (G.scatter r.ctl (r.S.getD x.d zeroS) x true).2.2.2 = 0)

theorem Row.flat_cell {α : Type} {w : World} {g : Nat} {t : TypeId} {k : Nat} {enc : α → Array Value} {S : List α} (h : Row w g t k enc S) (hk : ∀ s, (enc s).size = k) (h0 : 0 < k) {j : Nat} {u : Value} (hu : (flat enc S)[j]? = some u) : w.cell? ⟨g, j, none⟩ = some u := by
  have hj : j < S.length * k := by have := (List.getElem?_eq_some_iff.1 hu).1; rwa [flat_length hk] at this
  have hi : j / k < S.length := (Nat.div_lt_iff_lt_mul h0).2 hj
  have hr : j % k < k := Nat.mod_lt _ h0
  have e : j = j / k * k + j % k := by rw [Nat.mul_comm]; exact (Nat.div_add_mod j k).symm
  have h1 := flat_get hk S (j / k) hi (j % k) hr
  rw [← e, hu] at h1
  have h2 := h.cell hi hr h1.symm
  rwa [← e] at h2
theorem flat_one {α : Type} {enc : α → Array Value} (h1 : ∀ s, (enc s).all (·.oneCell') = true) (S : List α) : ∀ u ∈ flat enc S, u.oneCell' = true := by
  intro u hu
  obtain ⟨s, _, hs⟩ := List.mem_flatMap.1 hu
  exact (Array.all_eq_true_iff_forall_mem.1 (h1 s)) u (by simpa using hs)

/-- [gather_any] with the slice's length under a name of its own. -/
theorem gather_len {p : Value} {G : Prg} {N : Nat} {W0 : World} (hF : FlowAt p G N W0) (hS : SinkOK G) {w : World} (hw : Below N W0 w) {b g cap n : Nat} {sv : Value} {agg ctl : St} {rounds : Int} {nx : List St × Int}
    (hR : RunAt w b sv agg ctl rounds nx.2) (hrow : Row w g 35 8 stC nx.1) (hn : nx.1.length = n) (hbg : b ≠ g) (i : Nat) (hi : i < n) (x y : Int) :
    Calls Try.prog 51 #[.pointer (some ⟨b, 0, none⟩), p, .slice (some ⟨g, 0, none⟩) n cap, .int .u32 i, .int .u64 x, .int .u64 y] w fun e w' =>
      e = .returned (.tuple #[]) ∧ Keep [b, g] w w' ∧ RunAt w' b sv agg ctl rounds (gatF G nx i x).2 ∧ Row w' g 35 8 stC (gatF G nx i x).1 := by
  subst hn
  have h := gather_any hF hS hw (cap := cap) hR hrow hbg i hi x y
  unfold gatF
  rwa [show nx.1.getD i zeroS = nx.1[i] by simp [List.getD_eq_getElem?_getD, List.getElem?_eq_getElem hi]]

/-- [fold_any] with the slice's length under a name of its own. -/
theorem fold_len {p : Value} {G : Prg} {N : Nat} {W0 : World} (hF : FlowAt p G N W0) {w : World} (hw : Below N W0 w) (hN : N ≤ w.heap.size) {b g cap n : Nat} {agg ctl : St} {rounds up : Int} {S : List St} (hl : S.length = n)
    (hR : RunAt w b (.slice (some ⟨g, 0, none⟩) n cap) agg ctl rounds up) (hrow : Row w g 35 8 stC S) (hbg : b ≠ g) (hb : N ≤ b) (hn : n < 4294967296) (hct : 0 ≤ ctl 1) :
    Calls Try.prog 49 #[.pointer (some ⟨b, 0, none⟩), p] w fun e w' =>
      e = .returned (.bool true) ∧ Keep [b] w w' ∧ RunAt w' b (.slice (some ⟨g, 0, none⟩) n cap) (foldT G ctl S n) ctl rounds up := by
  subst hl
  exact fold_any hF hw hN hR hrow hbg hb hn hct

set_option maxRecDepth 100000 in
set_option maxHeartbeats 8000000 in
theorem round_any {p : Value} {G : Prg} {N : Nat} {W0 : World} (hF : FlowAt p G N W0) (hS : SinkOK G) (hw8 : 0 ≤ G.words ∧ G.words ≤ 8) {b g cap : Nat} (r : RunP) (hn1 : 1 ≤ r.S.length) (hn : r.S.length ≤ 400) (hrd : 0 ≤ r.rounds ∧ r.rounds < 1000000)
    (ao : Option Addr) (ecap : Nat) (E : List Edg) (hlen : E.length ≤ 9223372036854775807) (hE : ∀ e ∈ E, e.s < r.S.length ∧ e.d < r.S.length ∧ e.w < 4294967296) (hne : NoErr G E r)
    (w : World) (hw : Below N W0 w) (hN : N ≤ w.heap.size) (he : EdgesAt w ao E) (heb : ∀ ge, ao = some ⟨ge, 0, none⟩ → ge ≠ b ∧ ge ≠ g)
    (hR : RunAt w b (.slice (some ⟨g, 0, none⟩) r.S.length cap) r.agg r.ctl r.rounds r.up) (hrow : Row w g 35 8 stC r.S) (hbg : b ≠ g) (hb : N ≤ b) (hg : N ≤ g) (hct : 0 ≤ r.ctl 1) :
    Calls Try.prog 35 #[.pointer (some ⟨b, 0, none⟩), p, .slice ao E.length ecap] w fun e w' => e = .returned (.tuple #[.bool (roundF G E r).2, .bool true]) ∧ Keep [b, g] w w' ∧
      RunAt w' b (.slice (some ⟨g, 0, none⟩) r.S.length cap) (roundF G E r).1.agg (roundF G E r).1.ctl (roundF G E r).1.rounds (roundF G E r).1.up ∧ Row w' g 35 8 stC (roundF G E r).1.S := by
  obtain ⟨S, agg, ctl, rounds, up⟩ := r
  dsimp only at hn1 hn hrd hE hR hrow hct ⊢
  obtain ⟨i0, hi, hz0, hz1, hz2⟩ := info_parts info35
  have HI := Lib.hid hi
  have HZ0 := Lib.hid hz0
  have HZ1 := Lib.hid hz1
  have HZ2 := Lib.hid hz2
  have HF := Lib.hid hF
  have HS := Lib.hid hS
  have HW := Lib.hid hw
  have HE := Lib.hid he
  have HEB := Lib.hid heb
  have HED := Lib.hid hE
  have HNE := Lib.hid hne
  have HR := Lib.hid hR
  have HRow := Lib.hid hrow
  have hbl : b < w.heap.size := hR.lt
  have hgl : g < w.heap.size := hrow.lt
  have c0 := hR.c0
  clear he hE hi hz0 hz1 hz2 hF hw hS heb hne hR hrow
  generalize hrf : roundF G E ⟨S, agg, ctl, rounds, up⟩ = rf
  have HRF := Lib.hid hrf
  clear hrf
  go_enter Try.func35, Try.ntmps35
  go_wp2_with (at_builtin; refine wpList_append_own _ rfl (.tmp 24) (.tmp 28) 32 rfl w.heap.size 35 i0 (.agg (stC zeroS)) 8 64 Try.underlying32 HI.out HZ0.out HZ1.out HZ2.out rfl (by omega) _ 0 [] rfl (World.ownsRow_made w #[] 0 (Nat.le_refl _) (Nat.zero_le _) (by simp)) ⟨g, 0, none⟩ S.length cap (flat stC S) rfl (by rw [flat_length stC_size]) ?c1 ?c2 ?c3 ?c4 ?c5 ?c6)
  case c1 =>
    intro j u hu
    rw [add_at, Nat.zero_add]
    exact ((HRow.out.ext (Ext.alloc _ _)).flat_cell stC_size (by omega) hu)
  case c2 => exact flat_one stC_one S
  case c3 => simp only [maxLen]; omega
  case c4 => omega
  case c5 => simp
  case c6 =>
    intro v' w1 hown hgr hnil
    clear hnil
    obtain ⟨g2, c2, hv2⟩ : ∃ g2 c2, v' = .slice (some ⟨g2, 0, none⟩) S.length c2 := by
      rcases hown.2 with ⟨_, h0⟩ | ⟨g2, c2, _, hv, _⟩
      · omega
      · exact ⟨g2, c2, hv⟩
    subst hv2
    have hg2 : w.heap.size ≤ g2 := by
      rcases hown.2 with ⟨h0, _⟩ | ⟨_, _, _, hv, hb, _⟩
      · cases h0
      · cases hv; exact hb
    have hX1 : Ext w w1 := Keep.grown (Ext.alloc w _) hgr (fun j hj => by simp [Value.ownBlock] at hj; exact .inr (by omega))
    have hRow2 : Row w1 g2 35 8 stC S := Row.of_own stC_size hown rfl
    have hs1 : w.heap.size ≤ w1.heap.size := hX1.size
    have HX1 := Lib.hid hX1
    have HRow2 := Lib.hid hRow2
    have hg21 : g2 < w1.heap.size := hRow2.lt
    clear hown hgr hX1 hRow2 c0
    go_wp2
    go_loopg [9] E.length (fun n v wr => ∃ k : Nat, k + n = E.length ∧ v = .int .i64 k ∧ Keep [b, g2] w1 wr ∧ RunAt wr b (.slice (some ⟨g, 0, none⟩) S.length cap) agg ctl rounds (scatT G ctl S up E k).2 ∧ Row wr g2 35 8 stC (scatT G ctl S up E k).1)
    case atStart => exact ⟨0, by omega, rfl, Keep.refl _ _, HR.out.ext HX1.out, HRow2.out⟩
    case round =>
      obtain ⟨k, hk, rfl, hK, hRun, hNx⟩ := hrel
      by_cases hlt : k < E.length
      · have hkk : (k : Int) < (E.length : Int) := by omega
        obtain ⟨ge, rfl, hge⟩ := HE.out (by intro h; subst h; simp at hlt)
        obtain ⟨hgb, hgg⟩ := HEB.out ge rfl
        have hgel : ge < w.heap.size := hge.lt
        have hge1 : Row wr ge 51 3 edC E := (hge.ext HX1.out).keep hK (by simp; omega)
        obtain ⟨hxs, hxd, hxw⟩ := HED.out E[k] (List.getElem_mem hlt)
        obtain ⟨hn1x, hn2x⟩ := HNE.out E[k] (List.getElem_mem hlt)
        have hAx : At wr ge (k * 3) (edC E[k]) := hge1.at edC_size hlt
        have hgd : E.getD k ⟨0, 0, 0⟩ = E[k] := by simp [List.getD_eq_getElem?_getD, List.getElem?_eq_getElem hlt]
        have hscat : scatT G ctl S up E (k + 1) = bckF G ctl S E[k] (fwdF G ctl S E[k] (scatT G ctl S up E k)) := by rw [scatT, hgd]
        have hwr : w1.heap.size ≤ wr.heap.size := hK.size
        have hnl : (scatT G ctl S up E k).1.length = S.length := scatT_length G ctl S up E k
        generalize scatT G ctl S up E k = nx at *
        generalize E[k] = x at *
        have HSC := Lib.hid hscat
        have HAx := Lib.hid hAx
        have HN1 := Lib.hid hn1x
        have HN2 := Lib.hid hn2x
        have HNL := Lib.hid hnl
        have HK := Lib.hid hK
        have HRun := Lib.hid hRun
        have HNx := Lib.hid hNx
        clear hge hge1 hgd hscat hAx hn1x hn2x hnl hK hRun hNx
        go_wp2_with (first | (refine wpList_load_at rfl 51 _ rfl _ rfl HAx.out Try.underlying51 rfl i51 ?_) | (refine wpList_store_at rfl 51 _ _ rfl rfl rfl (At.new (edC ⟨0, 0, 0⟩) 51 rfl) i51 rfl (edC_one _) ?_))
        have hP := keep_wput (wr.alloc (.cells (edC ⟨0, 0, 0⟩) 51)) wr.heap.size 0 (edC x)
        have hEV : Ext wr (wput (wr.alloc (.cells (edC ⟨0, 0, 0⟩) 51)) wr.heap.size 0 (edC x)) := Ext.trans' (Ext.alloc wr _) hP (by simp)
        have hAV : At (wput (wr.alloc (.cells (edC ⟨0, 0, 0⟩) 51)) wr.heap.size 0 (edC x)) wr.heap.size 0 (edC x) := (At.new (edC ⟨0, 0, 0⟩) 51 rfl).put rfl
        change Code.wp _ _ _ _ (wput (wr.alloc (.cells (edC ⟨0, 0, 0⟩) 51)) wr.heap.size 0 (edC x))
        have hBr : wr.heap.size < (wput (wr.alloc (.cells (edC ⟨0, 0, 0⟩) 51)) wr.heap.size 0 (edC x)).heap.size := by rw [wput_size]; simp
        generalize wput (wr.alloc (.cells (edC ⟨0, 0, 0⟩) 51)) wr.heap.size 0 (edC x) = V at *
        have hKV : Keep [b, g2] w1 V := HK.out.transE hEV
        have hRV := HRun.out.ext hEV
        have hNV := HNx.out.ext hEV
        have hrB : w1.heap.size ≤ wr.heap.size := hwr
        generalize wr.heap.size = B at *
        clear hP hEV hwr HK HRun HNx HAx wr
        -- the offer
        obtain ⟨a1, b1, s1, e1, hsc⟩ : ∃ a1 b1 s1 e1, G.scatter ctl (S.getD x.s zeroS) x false = (a1, b1, s1, e1) := ⟨_, _, _, _, rfl⟩
        have he1 : e1 = 0 := by have := HN1.out; rw [hsc] at this; exact this
        subst he1
        have hfw : fwdF G ctl S x nx = if s1 then gatF G nx x.d a1 else nx := by unfold fwdF; rw [hsc]
        have hgd : S.getD x.s zeroS = S[x.s] := by simp [List.getD_eq_getElem?_getD, List.getElem?_eq_getElem hxs]
        have hC1 : ∀ w', Below N W0 w' → Calls Try.prog 50 #[p, .agg (ctC ctl), .agg (stC S[x.s]), .agg (edC x), .bool false] w' fun e w'' => e = .returned (.tuple #[.int .u64 a1, .int .u64 b1, .bool s1, .int .i64 0]) ∧ Ext w' w'' := fun w' hb' => by
          have := HF.out.scatter w' hb' ctl (S.getD x.s zeroS) x false hct (by omega) hxw
          rwa [hsc, hgd] at this
        have hAg : At V.drew g (x.s * 8) (stC S[x.s]) := (((HRow.out.ext HX1.out).keep hKV (by simp; omega)).at stC_size hxs)
        have hBelV : Below N W0 V := hKV.below (HW.out.trans (HX1.out.below.mono hN)) (by omega) (by simp; omega)
        have c0V := hRV.c0
        have hlV : b < V.heap.size := hRV.lt
        have e0 : V.cell? ⟨B, 0, none⟩ = some (.int .u32 x.s) := hAV.cell (j := 0) rfl
        have hxsi : (x.s : Int) < (S.length : Int) := by omega
        have hxdi : (x.d : Int) < (S.length : Int) := by omega
        have HFW := Lib.hid hfw
        have HC1 := Lib.hid hC1
        have HAg := Lib.hid hAg
        have HBV := Lib.hid hBelV
        have HKV := Lib.hid hKV
        have HRV := Lib.hid hRV
        have HNV := Lib.hid hNV
        have HAV := Lib.hid hAV
        have HSC1 := Lib.hid hsc
        clear hfw hC1 hAg hBelV hKV hRV hNV hAV hsc hgd
        refine wp_region_row 24 0 (by kernel_rfl) (by kernel_rfl) ?_
        simp only [List.take, List.drop]
        iterate 4 (refine wpHead_step (fun K hK => ?_); go_simp; (refine hK _ ?_; clear hK K))
        refine wpHead_load_at rfl 37 _ rfl _ rfl HRV.out.ctlAt.drew Try.underlying37 rfl i37 ?_
        iterate 7 (refine wpHead_step (fun K hK => ?_); go_simp; (refine hK _ ?_; clear hK K))
        refine wpHead_load_at rfl 35 _ rfl _ rfl HAg.out Try.underlying35 rfl i35 ?_
        refine wpHead_load_at rfl 51 _ rfl _ rfl HAV.out.drew Try.underlying51 rfl i51 ?_
        refine wpHead_step (fun K hK => ?_); go_simp
        (apply Exists.intro; refine ⟨fun W1 => ?_, hK _ ?_⟩)
        · exact HC1.out _ (HBV.out.trans ((Ext.trans (Ext.drew V) (nx_ext _ W1)).below.mono (by omega)))
        clear hK K
        iterate 9 (refine wpHead_step (fun K hK => ?_); go_simp; (refine hK _ ?_; clear hK K))
        refine wpHead_nil (wpPure_nil ?_)
        intro w2 hw2
        refine wpList_nil (nOnly_mk ?_)
        have hE2 : Ext V w2 := Ext.trans (Ext.drew V) hw2
        have hK2 := HKV.out.transE hE2
        have hR2 := HRV.out.ext hE2
        have hN2 := HNV.out.ext hE2
        have hA2 := HAV.out.ext hE2
        have hVs := hE2.size
        have hB2 : Below N W0 w2 := HBV.out.trans (hE2.below.mono (by omega))
        have HK2 := Lib.hid hK2
        have HR2 := Lib.hid hR2
        have HNx2 := Lib.hid hN2
        have HA2 := Lib.hid hA2
        have HB2 := Lib.hid hB2
        have d1 : w2.cell? ⟨B, 1, none⟩ = some (.int .u32 x.d) := hA2.cell (j := 1) rfl
        have hlB2 : B < w2.heap.size := by omega
        clear hw2 hE2 hK2 hR2 hN2 hA2 hB2 HKV HRV HNV HAV HAg HBV c0V e0 hlV
        go_upto_if 63 with (go_at_call 15; refine (num_any _ _).mono ?_; rintro e w' ⟨rfl, rfl⟩)
        go_cut [13] (fun _ wv => Keep [b, g2] w1 wv ∧ RunAt wv b (.slice (some ⟨g, 0, none⟩) S.length cap) agg ctl rounds (fwdF G ctl S x nx).2 ∧ Row wv g2 35 8 stC (fwdF G ctl S x nx).1 ∧ At wv B 0 (edC x))
        case first =>
          cases s1
          · go_wp2
            go_meet
            case rel =>
              have h := HFW.out
              simp only [Bool.false_eq_true, if_false] at h
              rw [h]
              exact ⟨HK2.out, HR2.out, HNx2.out, HA2.out⟩
          · have HG1 := Lib.hid (gather_len HF.out HS.out HB2.out (cap := c2) HR2.out HNx2.out HNL.out (by omega) x.d hxd a1 b1)
            go_wp2_with (go_at_call 51; refine HG1.out.mono ?_; rintro e w3 ⟨rfl, h1, h2, h3⟩; have H1 := Lib.hid h1; have H2 := Lib.hid h2; have H3 := Lib.hid h3; clear h1 h2 h3)
            go_meet
            case rel =>
              have h := HFW.out
              simp only [if_true] at h
              rw [h]
              exact ⟨HK2.out.trans H1.out (fun _ h _ => h), H2.out, H3.out, HA2.out.keep H1.out (by simp; omega)⟩
        case rest =>
          obtain ⟨hc1, hc2, hc3, hc4⟩ := hcut
          have hnl1 : (fwdF G ctl S x nx).1.length = S.length := (fwdF_length G ctl S x nx).trans HNL.out
          generalize fwdF G ctl S x nx = nx1 at *
          have HB3 := Lib.hid (hc1.below (HW.out.trans (HX1.out.below.mono hN)) (by omega) (by simp; omega))
          obtain ⟨bo, hbo⟩ : ∃ bo, G.both = bo := ⟨_, rfl⟩
          have hbc := HF.out.both _ HB3.out
          rw [hbo] at hbc
          have hwc : w1.heap.size ≤ wc.heap.size := hc1.size
          have HBC := Lib.hid hbc
          have HK3 := Lib.hid hc1
          have HR3 := Lib.hid hc2
          have HN3 := Lib.hid hc3
          have HA3 := Lib.hid hc4
          have HNL1 := Lib.hid hnl1
          have HBO := Lib.hid hbo
          clear HFW HK2 HR2 HNx2 HA2 HB2 hc1 hc2 hc3 hc4 hnl1 hbc HNL HC1 HSC1 d1 hlB2 HN1 hbo
          go_upto_if 74 with (go_at_call 16; refine HBC.out.mono ?_; rintro e w4 ⟨rfl, hE4⟩)
          have hK4 := HK3.out.transE hE4
          have hR4 := HR3.out.ext hE4
          have hN4 := HN3.out.ext hE4
          have hA4 := HA3.out.ext hE4
          have hw4 : w1.heap.size ≤ w4.heap.size := hK4.size
          have hB4 : Below N W0 w4 := HB3.out.trans (hE4.below.mono (by omega))
          have HK4 := Lib.hid hK4
          have HR4 := Lib.hid hR4
          have HN4 := Lib.hid hN4
          have HA4 := Lib.hid hA4
          have HB4 := Lib.hid hB4
          clear hE4 hK4 hR4 hN4 hA4 hB4 HBC HB3 HK3 HR3 HN3 HA3
          cases bo
          · go_wp2
            go_roundg (gk - 1)
            case measure => omega
            case rel =>
              refine ⟨k + 1, by omega, by go_num, HK4.out, ?_⟩
              have h := HSC.out
              unfold bckF at h
              rw [HBO.out] at h
              simp only [Bool.false_eq_true, if_false] at h
              rw [h]
              exact ⟨HR4.out, HN4.out⟩
          · obtain ⟨a2, b2, s2, e2, hsc⟩ : ∃ a1 b1 s1 e1, G.scatter ctl (S.getD x.d zeroS) x true = (a1, b1, s1, e1) := ⟨_, _, _, _, rfl⟩
            have he1 : e2 = 0 := by have := HN2.out HBO.out; rw [hsc] at this; exact this
            subst he1
            have hfw : scatT G ctl S up E (k + 1) = if s2 then gatF G nx1 x.s a2 else nx1 := by rw [HSC.out]; unfold bckF; rw [HBO.out, hsc]; simp only [if_true]
            have hgd : S.getD x.d zeroS = S[x.d] := by simp [List.getD_eq_getElem?_getD, List.getElem?_eq_getElem hxd]
            have hC1 : ∀ w', Below N W0 w' → Calls Try.prog 50 #[p, .agg (ctC ctl), .agg (stC S[x.d]), .agg (edC x), .bool true] w' fun e w'' => e = .returned (.tuple #[.int .u64 a2, .int .u64 b2, .bool s2, .int .i64 0]) ∧ Ext w' w'' := fun w' hb' => by
              have := HF.out.scatter w' hb' ctl (S.getD x.d zeroS) x true hct (by omega) hxw
              rwa [hsc, hgd] at this
            have hAg : At w4.drew g (x.d * 8) (stC S[x.d]) := (((HRow.out.ext HX1.out).keep HK4.out (by simp; omega)).at stC_size hxd)
            have c0V := HR4.out.c0
            have hlV : b < w4.heap.size := HR4.out.lt
            have e0 : w4.cell? ⟨B, 1, none⟩ = some (.int .u32 x.d) := HA4.out.cell (j := 1) rfl
            have hBl : B < w4.heap.size := HA4.out.lt
            have HFW := Lib.hid hfw
            have HC1 := Lib.hid hC1
            have HAg := Lib.hid hAg
            clear hfw hC1 hAg hsc hgd HSC HN2
            go_upto_region 12 with fail
            refine wp_region_row 24 0 (by kernel_rfl) (by kernel_rfl) ?_
            simp only [List.take, List.drop]
            iterate 4 (refine wpHead_step (fun K hK => ?_); go_simp; (refine hK _ ?_; clear hK K))
            refine wpHead_load_at rfl 37 _ rfl _ rfl HR4.out.ctlAt.drew Try.underlying37 rfl i37 ?_
            iterate 7 (refine wpHead_step (fun K hK => ?_); go_simp; (refine hK _ ?_; clear hK K))
            refine wpHead_load_at rfl 35 _ rfl _ rfl HAg.out Try.underlying35 rfl i35 ?_
            refine wpHead_load_at rfl 51 _ rfl _ rfl HA4.out.drew Try.underlying51 rfl i51 ?_
            refine wpHead_step (fun K hK => ?_); go_simp
            (apply Exists.intro; refine ⟨fun W1 => ?_, hK _ ?_⟩)
            · exact HC1.out _ (HB4.out.trans ((Ext.trans (Ext.drew w4) (nx_ext _ W1)).below.mono (by omega)))
            clear hK K
            iterate 9 (refine wpHead_step (fun K hK => ?_); go_simp; (refine hK _ ?_; clear hK K))
            refine wpHead_nil (wpPure_nil ?_)
            intro w5 hw5
            refine wpList_nil (nOnly_mk ?_)
            have hE2 : Ext w4 w5 := Ext.trans (Ext.drew w4) hw5
            have hK2 := HK4.out.transE hE2
            have hR2 := HR4.out.ext hE2
            have hN2 := HN4.out.ext hE2
            have hA2 := HA4.out.ext hE2
            have hVs' := hE2.size
            have hB2 : Below N W0 w5 := HB4.out.trans (hE2.below.mono (by omega))
            have HK2 := Lib.hid hK2
            have HR2 := Lib.hid hR2
            have HNx2 := Lib.hid hN2
            have HA2 := Lib.hid hA2
            have HB2 := Lib.hid hB2
            have d1 : w5.cell? ⟨B, 0, none⟩ = some (.int .u32 x.s) := hA2.cell (j := 0) rfl
            have hlB2 : B < w5.heap.size := by omega
            clear hw5 hE2 hK2 hR2 hN2 hA2 hB2 HK4 HR4 HN4 HA4 HAg HB4 c0V e0 hlV
            go_upto_if 98 with (go_at_call 15; refine (num_any _ _).mono ?_; rintro e w' ⟨rfl, rfl⟩)
            cases s2
            · go_wp2
              go_roundg (gk - 1)
              case measure => omega
              case rel =>
                refine ⟨k + 1, by omega, by go_num, HK2.out, ?_⟩
                have h := HFW.out
                simp only [Bool.false_eq_true, if_false] at h
                rw [h]
                exact ⟨HR2.out, HNx2.out⟩
            · have HG1 := Lib.hid (gather_len HF.out HS.out HB2.out (cap := c2) HR2.out HNx2.out HNL1.out (by omega) x.s hxs a2 b2)
              go_wp2_with (go_at_call 51; refine HG1.out.mono ?_; rintro e w3 ⟨rfl, h1, h2, h3⟩; have H1 := Lib.hid h1; have H2 := Lib.hid h2; have H3 := Lib.hid h3; clear h1 h2 h3)
              go_roundg (gk - 1)
              case measure => omega
              case rel =>
                refine ⟨k + 1, by omega, by go_num, HK2.out.trans H1.out (fun _ h _ => h), ?_⟩
                have h := HFW.out
                simp only [if_true] at h
                rw [h]
                exact ⟨H2.out, H3.out⟩
      · have hkE : k = E.length := by omega
        subst hkE
        have hnl : (scatT G ctl S up E E.length).1.length = S.length := scatT_length G ctl S up E E.length
        have hrf := HRF.out
        simp only [roundF] at hrf
        generalize scatT G ctl S up E E.length = nx at *
        have hRG : Row wr g 35 8 stC S := (HRow.out.ext HX1.out).keep hK (by simp; omega)
        have HNL := Lib.hid hnl
        have HK := Lib.hid (hK.mono (T := [b, g2, g]) (fun j h => by simp at h ⊢; omega))
        have HRun := Lib.hid hRun
        have HNx := Lib.hid hNx
        have HRG := Lib.hid hRG
        have HRF2 := Lib.hid hrf
        clear hnl hK hRun hNx hRG hrf HRF HNE HED HEB HE
        go_wp2
        go_loopg [15, 16] S.length (fun n c v wr => ∃ k : Nat, k + n = S.length ∧ c = .int .u64 (chT G ctl agg nx.1 k) ∧ v = .int .i64 k ∧ Keep [b, g2, g] w1 wr ∧ RunAt wr b (.slice (some ⟨g, 0, none⟩) S.length cap) agg ctl rounds nx.2 ∧ Row wr g2 35 8 stC nx.1 ∧ Row wr g 35 8 stC (apT G ctl agg nx.1 S k))
        case atStart => exact ⟨0, by omega, rfl, rfl, HK.out, HRun.out, HNx.out, HRG.out⟩
        clear HK HRun HNx HRG
        case round =>
          obtain ⟨k, hk, rfl, rfl, hK, hRun, hNx, hRG⟩ := hrel
          by_cases hlt : k < S.length
          · have hkk : (k : Int) < (S.length : Int) := by omega
            have hk32 : (k : Int) < 4294967296 := by omega
            have hwk : IntKind.u32.wrap (k : Int) = (k : Int) := u32_id (by omega) hk32
            have hwr : w1.heap.size ≤ wr.heap.size := hK.size
            have hkn : k < nx.1.length := by rw [HNL.out]; exact hlt
            have hkg : k < (apT G ctl agg nx.1 S k).length := by rw [apT_length]; exact hlt
            obtain ⟨s1, t1, hap⟩ : ∃ s t, G.apply ctl agg k nx.1[k] = (s, t) := ⟨_, _, rfl⟩
            have hapV : appV G ctl agg nx.1 k = (s1, t1) := by
              unfold appV
              rw [show nx.1.getD k zeroS = nx.1[k] by simp [List.getD_eq_getElem?_getD, List.getElem?_eq_getElem hkn], hap]
            have hapT : apT G ctl agg nx.1 S (k + 1) = (apT G ctl agg nx.1 S k).set k (cutS s1 G.words) := by rw [apT, hapV]
            have hchT : chT G ctl agg nx.1 (k + 1) = if t1 then u64p (chT G ctl agg nx.1 k) else chT G ctl agg nx.1 k := by rw [chT, hapV]
            have hBel : Below N W0 wr := hK.below (HW.out.trans (HX1.out.below.mono hN)) (by omega) (by simp; omega)
            have hC : ∀ w', Below N W0 w' → Calls Try.prog 52 #[p, .agg (ctC ctl), .agg (stC agg), .int .u32 k, .agg (stC nx.1[k])] w' fun e w'' => e = .returned (.tuple #[.agg (stC s1), .bool t1, .int .i64 0]) ∧ Ext w' w'' := fun w' hb' => by
              have := HF.out.apply w' hb' ctl agg nx.1[k] k hct (by omega) hk32
              rwa [hap] at this
            have hAk : At wr.drew g2 (k * 8) (stC nx.1[k]) := (hNx.at stC_size hkn).drew
            have c0 := hRun.c0
            have hlr : b < wr.heap.size := hRun.lt
            have HAP := Lib.hid hapT
            have HCH := Lib.hid hchT
            have HBel := Lib.hid hBel
            have HC := Lib.hid hC
            have HAk := Lib.hid hAk
            have HK := Lib.hid hK
            have HRun := Lib.hid hRun
            have HNx := Lib.hid hNx
            have HRG := Lib.hid hRG
            clear hapT hchT hBel hC hAk hK hRun hNx hRG hap hapV
            go_upto_region 21 with fail
            refine wp_region_new 17 3 (by kernel_rfl) (by kernel_rfl) ?_
            simp only [List.take, List.drop]
            iterate 4 (refine wpHead_step (fun K hK => ?_); go_simp; (refine hK _ ?_; clear hK K))
            refine wpHead_load_at rfl 37 _ rfl _ rfl HRun.out.ctlAt.drew Try.underlying37 rfl i37 ?_
            iterate 3 (refine wpHead_step (fun K hK => ?_); go_simp; (refine hK _ ?_; clear hK K))
            refine wpHead_load_at rfl 35 _ rfl _ rfl HRun.out.aggAt.drew Try.underlying35 rfl i35 ?_
            iterate 5 (refine wpHead_step (fun K hK => ?_); go_simp; (refine hK _ ?_; clear hK K))
            refine wpHead_load_at rfl 35 _ rfl _ rfl HAk.out Try.underlying35 rfl i35 ?_
            refine wpHead_step (fun K hK => ?_); go_simp
            (apply Exists.intro; refine ⟨fun W1 => ?_, hK _ ?_⟩)
            · exact HC.out _ (HBel.out.trans ((Ext.trans (Ext.drew wr) (nx_ext _ W1)).below.mono (by omega)))
            clear hK K
            iterate 1 (refine wpHead_step (fun K hK => ?_); go_simp; (refine hK _ ?_; clear hK K))
            refine wpHead_nil ?_
            refine wpPure_step rfl _ (fun _ => rfl) ?_
            refine wpPure_step rfl _ (fun _ => rfl) ?_
            refine wpPure_step rfl _ (fun _ => rfl) ?_
            refine wpPure_nil ?_
            refine fOpE_alloc35 (ho := rfl) rfl rfl (fun w3 hw3 w4 hw4 => ?_)
            have hE4 : Ext wr w3 := Ext.trans (Ext.drew wr) hw3
            have hz : At w4 w3.heap.size 0 (stC zeroS) := At.ext (At.new _ _ rfl) hw4
            have hE5 : Ext wr w4 := (hE4.trans (Ext.alloc _ _)).trans hw4
            have hl3 : wr.heap.size ≤ w3.heap.size := hE4.size
            have HZ := Lib.hid hz
            have HE := Lib.hid hE5
            clear hw3 hw4 hE4 hz hE5 c0
            generalize w3.heap.size = B at *
            clear w3
            go_simp
            go_wp2_with (refine wpList_store_at rfl 35 _ _ rfl rfl rfl HZ.out i35 rfl (stC_one _) ?_)
            refine nOnly_mk ?_
            have hP := keep_wput w4 B 0 (stC s1)
            have HRV := Lib.hid ((HRun.out.ext HE.out).keep hP (by simp; omega))
            have HNV := Lib.hid ((HNx.out.ext HE.out).keep hP (by simp; have := HNx.out.lt; omega))
            have HGV := Lib.hid ((HRG.out.ext HE.out).keep hP (by simp; have := HRG.out.lt; omega))
            have HAV := Lib.hid (HZ.out.put (stC_size s1))
            have HKV := Lib.hid ((HK.out.transE HE.out).trans hP (fun j hj hlt => by simp at hj; omega))
            clear hP HRun HNx HRG HAk HC HK HZ HE
            generalize wput w4 B 0 (stC s1) = V at *
            go_upto_if 136 with (go_at_call 15; refine (num_any _ _).mono ?_; rintro e w' ⟨rfl, rfl⟩)
            go_cut [15] (fun c wv => c = .int .u64 (chT G ctl agg nx.1 (k + 1)) ∧ wv = V)
            case first =>
              cases t1
              · go_wp2
                go_meet
                case rel => exact ⟨by rw [HCH.out]; simp, rfl⟩
              · go_wp2
                go_meet
                case rel => exact ⟨by rw [HCH.out]; simp [u64p], rfl⟩
            case rest =>
              obtain ⟨rfl, rfl⟩ := hcut
              have c0 := HRV.out.c0
              have hlr : b < wc.heap.size := HRV.out.lt
              have hKs := HKV.out.size
              have hBV : Below N W0 wc := HKV.out.below (HW.out.trans (HX1.out.below.mono hN)) (by omega) (by simp; omega)
              have HBV := Lib.hid hBV
              clear hBV HBel HCH
              go_upto_region 26 with fail
              refine wp_region_row 9 0 (by kernel_rfl) (by kernel_rfl) ?_
              simp only [List.take, List.drop]
              iterate 5 (refine wpHead_step (fun K hK => ?_); go_simp; (refine hK _ ?_; clear hK K))
              refine wpHead_load_at rfl 35 _ rfl _ rfl HAV.out.drew Try.underlying35 rfl i35 ?_
              refine wpHead_step (fun K hK => ?_); go_simp; (refine hK _ ?_; clear hK K)
              refine wpHead_step (fun K hK => ?_); go_simp
              (apply Exists.intro; refine ⟨fun W1 => ?_, hK _ ?_⟩)
              · exact HF.out.words _ (HBV.out.trans ((Ext.trans (Ext.drew wc) (nx_ext _ W1)).below.mono (by omega)))
              clear hK K
              refine wpHead_step (fun K hK => ?_); go_simp
              (apply Exists.intro; refine ⟨fun W1 => ?_, hK _ ?_⟩)
              · exact cut_any s1 G.words hw8.1 hw8.2 _
              clear hK K
              refine wpHead_nil (wpPure_nil ?_)
              intro w5 hw5
              have hE5 : Ext wc w5 := Ext.trans (Ext.drew wc) hw5
              have HKW := Lib.hid (HKV.out.transE hE5)
              have HRW := Lib.hid (HRV.out.ext hE5)
              have HNW := Lib.hid (HNV.out.ext hE5)
              have HGW := Lib.hid (HGV.out.ext hE5)
              clear hw5 hE5 HKV HRV HNV HGV HAV HBV c0 hlr hKs
              have HAT := Lib.hid (HGW.out.at stC_size hkg)
              go_wp2_with (refine wpList_store_at (cells := stC (cutS s1 G.words)) rfl 35 _ _ rfl rfl rfl HAT.out i35 rfl (stC_one _) ?_)
              refine nOnly_mk ?_
              have hP := keep_wput w5 g (k * 8) (stC (cutS s1 G.words))
              have HRX := Lib.hid (HRW.out.keep hP (by simp; omega))
              have HNX := Lib.hid (HNW.out.keep hP (by simp; omega))
              have HGX := Lib.hid (HGW.out.put stC_size hkg (cutS s1 G.words))
              have HKX := Lib.hid (HKW.out.trans hP (fun j hj hlt => by simp at hj ⊢; omega))
              clear hP HRW HNW HGW HKW HAT
              generalize wput w5 g (k * 8) (stC (cutS s1 G.words)) = V at *
              go_wp2
              go_roundg (gk - 1)
              case measure => omega
              case rel => exact ⟨k + 1, by omega, rfl, by go_num, HKX.out, HRX.out, HNX.out, by rw [HAP.out]; exact HGX.out⟩
          · have hkS : k = S.length := by omega
            subst hkS
            have hSl : (apT G ctl agg nx.1 S S.length).length = S.length := apT_length G ctl agg nx.1 S S.length
            have hrf := HRF2.out
            have HSL := Lib.hid hSl
            have HRF := Lib.hid hrf
            have HK := Lib.hid hK
            have HRun := Lib.hid hRun
            have HRG := Lib.hid hRG
            clear hSl hrf HRF2 hK hRun hRG hNx
            generalize apT G ctl agg nx.1 S S.length = S' at *
            generalize chT G ctl agg nx.1 S.length = ch at *
            have c13 := HRun.out.c13
            have f13 := HRun.out.frozen 13
            have hlr : b < wr.heap.size := HRun.out.lt
            go_upto_region 28 with fail
            have hP : Keep [b] wr (wr.setCell ⟨b, 13, none⟩ (.int .i64 (rounds + 1))) := Keep.setCell (Keep.refl _ _) (.inl (by simp)) _
            have HRV := Lib.hid (HRun.out.set13 (rounds + 1))
            have HGV := Lib.hid (HRG.out.keep hP (by simp; omega))
            have HKV := Lib.hid (HK.out.trans hP (fun j hj hlt => by simp at hj ⊢; omega))
            clear hP HRun HRG HK c13 f13 hlr
            generalize wr.setCell ⟨b, 13, none⟩ (.int .i64 (rounds + 1)) = V at *
            have hKs := HKV.out.size
            have hBV : Below N W0 V := HKV.out.below (HW.out.trans (HX1.out.below.mono hN)) (by omega) (by simp; omega)
            have HFO := Lib.hid (fold_len HF.out hBV (by omega) HSL.out HRV.out HGV.out hbg hb (by omega) hct)
            clear hBV
            go_upto_region 31 with (go_at_call 49; refine HFO.out.mono ?_; rintro e w4 ⟨rfl, h1, h2⟩; have H1 := Lib.hid h1; have H2 := Lib.hid h2; clear h1 h2)
            have HG5 := Lib.hid (HGV.out.keep H1.out (by simp; omega))
            have HK5 := Lib.hid (HKV.out.trans H1.out (fun j hj hlt => by simp at hj ⊢; omega))
            have hKs5 := HK5.out.size
            have HB5 := Lib.hid (HK5.out.below (HW.out.trans (HX1.out.below.mono hN)) (by omega) (by simp; omega))
            have c0 := H2.out.c0
            have c13 := H2.out.c13
            have hlr : b < w4.heap.size := H2.out.lt
            obtain ⟨ct, tb, htu⟩ : ∃ s t, G.turn ctl (foldT G ctl S' S.length) ch (rounds + 1) = (s, t) := ⟨_, _, rfl⟩
            have hC : ∀ w', Below N W0 w' → Calls Try.prog 53 #[p, .agg (ctC ctl), .agg (stC (foldT G ctl S' S.length)), .int .u64 ch, .int .i64 (rounds + 1)] w' fun e w'' => e = .returned (.tuple #[.agg (ctC ct), .bool tb, .int .i64 0]) ∧ Ext w' w'' := fun w' hb' => by
              have := HF.out.turn w' hb' ctl (foldT G ctl S' S.length) ch (rounds + 1) hct
              rwa [htu] at this
            have hrf := HRF.out
            rw [htu] at hrf
            have HC := Lib.hid hC
            have HRF2 := Lib.hid hrf
            clear hC hrf HRF htu HFO HRV HGV HKV H1 hKs
            generalize foldT G ctl S' S.length = ag at *
            refine wp_region_new 16 3 (by kernel_rfl) (by kernel_rfl) ?_
            simp only [List.take, List.drop]
            iterate 4 (refine wpHead_step (fun K hK => ?_); go_simp; (refine hK _ ?_; clear hK K))
            refine wpHead_load_at rfl 37 _ rfl _ rfl H2.out.ctlAt.drew Try.underlying37 rfl i37 ?_
            iterate 3 (refine wpHead_step (fun K hK => ?_); go_simp; (refine hK _ ?_; clear hK K))
            refine wpHead_load_at rfl 35 _ rfl _ rfl H2.out.aggAt.drew Try.underlying35 rfl i35 ?_
            iterate 5 (refine wpHead_step (fun K hK => ?_); go_simp; (refine hK _ ?_; clear hK K))
            refine wpHead_step (fun K hK => ?_); go_simp
            (apply Exists.intro; refine ⟨fun W1 => ?_, hK _ ?_⟩)
            · exact HC.out _ (HB5.out.trans ((Ext.trans (Ext.drew w4) (nx_ext _ W1)).below.mono (by omega)))
            clear hK K
            iterate 1 (refine wpHead_step (fun K hK => ?_); go_simp; (refine hK _ ?_; clear hK K))
            refine wpHead_nil ?_
            refine wpPure_step rfl _ (fun _ => rfl) ?_
            refine wpPure_step rfl _ (fun _ => rfl) ?_
            refine wpPure_step rfl _ (fun _ => rfl) ?_
            refine wpPure_nil ?_
            refine fOpE_alloc37 (ho := rfl) rfl rfl (fun w3 hw3 w5 hw5 => ?_)
            have hE4 : Ext w4 w3 := Ext.trans (Ext.drew w4) hw3
            have hz : At w5 w3.heap.size 0 (ctC zeroS) := At.ext (At.new _ _ rfl) hw5
            have hE5 : Ext w4 w5 := (hE4.trans (Ext.alloc _ _)).trans hw5
            have hl3 : w4.heap.size ≤ w3.heap.size := hE4.size
            have HZ := Lib.hid hz
            have HE := Lib.hid hE5
            clear hw3 hw5 hE4 hz hE5 c0 c13
            generalize w3.heap.size = B at *
            clear w3
            go_simp
            go_wp2_with (refine wpList_store_at rfl 37 _ _ rfl rfl rfl HZ.out i37 rfl (ctC_one _) ?_)
            refine nOnly_mk ?_
            have hP := keep_wput w5 B 0 (ctC ct)
            have HRV := Lib.hid ((H2.out.ext HE.out).keep hP (by simp; omega))
            have HGV := Lib.hid ((HG5.out.ext HE.out).keep hP (by simp; have := HG5.out.lt; omega))
            have HAV := Lib.hid (HZ.out.put (ctC_size ct))
            have HKV := Lib.hid ((HK5.out.transE HE.out).trans hP (fun j hj hlt => by simp at hj; omega))
            clear hP H2 HG5 HC HK5 HZ HE HB5
            generalize wput w5 B 0 (ctC ct) = V5 at *
            go_wp2_with (first | (go_at_call 15; refine (num_any _ _).mono ?_; rintro e w' ⟨rfl, rfl⟩) | (refine wpList_load_at rfl 37 _ rfl _ rfl HAV.out Try.underlying37 rfl i37 ?_) | (refine wpList_store_at (cells := ctC ct) rfl 37 _ _ rfl rfl rfl HRV.out.ctlAt i37 rfl (ctC_one _) ?_))
            go_ret2
            have hP := keep_wput V5 b 9 (ctC ct)
            have h := HRF2.out
            subst h
            refine ⟨rfl, ?_, HRV.out.put_ctl ct, HGV.out.keep hP (by simp; omega)⟩
            have h1 := HKV.out.trans hP (fun j hj hlt => by simp at hj ⊢; omega)
            exact Keep.trans (S := [b, g]) (Keep.mono HX1.out (by simp)) h1 (fun j hj hlt => by simp at hj ⊢; omega)
end Go.Proofs.Ytalpjipopipncaa
