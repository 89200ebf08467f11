/- The data of the walks: states, edges, programs as plain functions; what a flow's methods come to. Conditions: none. -/
import Derived.Test.YtalpjipopipncaaMem
import Derived.Lib.Hide
import Derived.Deep.Draws
namespace Go.Proofs.Ytalpjipopipncaa
open Go Go.RowKit

abbrev St := Nat → Int
structure Edg where
  s : Nat
  d : Nat
  w : Nat

def stC (s : St) : Array Value := #[.int .u64 (s 0), .int .u64 (s 1), .int .u64 (s 2), .int .u64 (s 3), .int .u64 (s 4), .int .u64 (s 5), .int .u64 (s 6), .int .u64 (s 7)]
def ctC (c : St) : Array Value := #[.int .u64 (c 0), .int .u64 (c 1), .int .u64 (c 2), .int .u64 (c 3)]
def edC (e : Edg) : Array Value := #[.int .u32 e.s, .int .u32 e.d, .int .u32 e.w]

theorem stC_size (s : St) : (stC s).size = 8 := rfl
theorem ctC_size (s : St) : (ctC s).size = 4 := rfl
theorem edC_size (s : Edg) : (edC s).size = 3 := rfl
theorem stC_one (s : St) : (stC s).all (·.oneCell') = true := by simp [stC, Value.oneCell']
theorem ctC_one (s : St) : (ctC s).all (·.oneCell') = true := by simp [ctC, Value.oneCell']
theorem edC_one (s : Edg) : (edC s).all (·.oneCell') = true := by simp [edC, Value.oneCell']
theorem i35 : (Try.prog.info? 35).map (·.size) = some 8 := by kernel_rfl
theorem i37 : (Try.prog.info? 37).map (·.size) = some 4 := by kernel_rfl
theorem i51 : (Try.prog.info? 51).map (·.size) = some 3 := by kernel_rfl
theorem i39 : (Try.prog.info? 39).map (·.size) = some 15 := by kernel_rfl
theorem i115 : (Try.prog.info? 115).map (·.size) = some 2 := by kernel_rfl
theorem i108 : (Try.prog.info? 108).map (·.size) = some 4 := by kernel_rfl
theorem i24 : (Try.prog.info? 24).map (·.size) = some 2 := by kernel_rfl

def U64 : Int := 18446744073709551615

/-- A vertex program as plain functions. -/
structure Prg where
  words : Int
  both : Bool
  a : Int
  ma : Int
  b : Int
  mb : Int
  start : Int → St
  scatter : St → St → Edg → Bool → Int × Int × Bool × Int
  apply : St → St → Int → St → St × Bool
  fold : St → St → Int → St → St
  turn : St → St → Int → Int → St × Bool

/-- What the methods of the flow at p come to, in every world that goes on from W (N: the blocks that were there). -/
structure FlowAt (p : Value) (G : Prg) (N : Nat) (W : World) : Prop where
  words : ∀ w, Below N W w → Calls Try.prog 44 #[p] w fun e w' => e = .returned (.int .i64 G.words) ∧ Ext w w'
  both : ∀ w, Below N W w → Calls Try.prog 16 #[p] w fun e w' => e = .returned (.bool G.both) ∧ Ext w w'
  sink : ∀ w, Below N W w → Calls Try.prog 45 #[p] w fun e w' => e = .returned (.agg #[.int .i64 G.a, .int .i64 G.ma, .int .i64 G.b, .int .i64 G.mb]) ∧ Ext w w'
  start : ∀ w, Below N W w → ∀ (v x y : Int), 0 ≤ v → v < 4294967296 → Calls Try.prog 47 #[p, .int .u32 v, .agg #[.int .u64 x, .int .u64 y]] w fun e w' => e = .returned (.tuple #[.agg (stC (G.start v)), .int .i64 0]) ∧ Ext w w'
  scatter : ∀ w, Below N W w → ∀ (c s : St) (x : Edg) (back : Bool), 0 ≤ c 1 → x.s < 4294967296 → x.w < 4294967296 → Calls Try.prog 50 #[p, .agg (ctC c), .agg (stC s), .agg (edC x), .bool back] w fun e w' =>
    e = .returned (.tuple #[.int .u64 (G.scatter c s x back).1, .int .u64 (G.scatter c s x back).2.1, .bool (G.scatter c s x back).2.2.1, .int .i64 (G.scatter c s x back).2.2.2]) ∧ Ext w w'
  apply : ∀ w, Below N W w → ∀ (c g s : St) (v : Int), 0 ≤ c 1 → 0 ≤ v → v < 4294967296 → Calls Try.prog 52 #[p, .agg (ctC c), .agg (stC g), .int .u32 v, .agg (stC s)] w fun e w' =>
    e = .returned (.tuple #[.agg (stC (G.apply c g v s).1), .bool (G.apply c g v s).2, .int .i64 0]) ∧ Ext w w'
  fold : ∀ w, Below N W w → ∀ (c g s : St) (v : Int), 0 ≤ c 1 → 0 ≤ v → v < 4294967296 → Calls Try.prog 58 #[p, .agg (ctC c), .agg (stC g), .int .u32 v, .agg (stC s)] w fun e w' =>
    e = .returned (.tuple #[.agg (stC (G.fold c g v s)), .int .i64 0]) ∧ Ext w w'
  turn : ∀ w, Below N W w → ∀ (c g : St) (ch r : Int), 0 ≤ c 1 → Calls Try.prog 53 #[p, .agg (ctC c), .agg (stC g), .int .u64 ch, .int .i64 r] w fun e w' =>
    e = .returned (.tuple #[.agg (ctC (G.turn c g ch r).1), .bool (G.turn c g ch r).2, .int .i64 0]) ∧ Ext w w'

def upd (s : St) (i : Nat) (x : Int) : St := fun j => if j = i then x else s j

/-- The words that are kept. -/
def cutS (s : St) (words : Int) : St := fun i => if words ≤ (i : Int) then 0 else s i
def monS (m : Int) (s : St) (i : Int) (y : Int) : St :=
  if m = 1 then upd s i.toNat (min (s i.toNat) y) else if m = 3 then upd s i.toNat (IntKind.u64.wrap (min (wrap64 (s i.toNat)) (wrap64 y))) else s
theorem stC_set (s : St) (k : Nat) (hk : k < 8) (x : Int) : (stC s).setIfInBounds k (.int .u64 x) = stC (upd s k x) := by
  rcases k with _ | _ | _ | _ | _ | _ | _ | _ | k <;> first | rfl | omega
theorem stC_congr {s s' : St} (h : ∀ i, i < 8 → s i = s' i) : stC s = stC s' := by
  simp only [stC, h 0 (by omega), h 1 (by omega), h 2 (by omega), h 3 (by omega), h 4 (by omega), h 5 (by omega), h 6 (by omega), h 7 (by omega)]
theorem stC_get (s : St) (k : Nat) (hk : k < 8) : (stC s)[k]? = some (.int .u64 (s k)) := by
  rcases k with _ | _ | _ | _ | _ | _ | _ | _ | k <;> first | rfl | omega

def u64p (x : Int) : Int := IntKind.u64.wrap (x + 1)

theorem results_tmp4 {fn : Func} {t u v x : Tmp} (h : fn.results = #[.tmp t, .tmp u, .tmp v, .tmp x]) (tmps : Array Value) (P : Program) (w : World) :
    (results fn tmps).run P w = .ok (.tuple #[tmps.getD t undef, tmps.getD u undef, tmps.getD v undef, tmps.getD x undef]) w := by simp [results, h]

/-- WCC. -/
def labelsP : Prg where
  words := 3
  both := true
  a := 1
  ma := 1
  b := 0
  mb := 0
  start v := fun i => if i = 0 then v else if i = 1 then U64 else if i = 2 then 1 else 0
  scatter _ s _ _ := (s 0, 0, s 2 == 1, 0)
  apply _ _ _ s := (fun i => if i = 0 then (if s 1 < s 0 then s 1 else s 0) else if i = 1 then U64 else if i = 2 then (if s 1 < s 0 then 1 else 0) else s i, decide (s 1 < s 0))
  fold _ g v s := if s 0 == v then upd g 0 (u64p (g 0)) else g
  turn c _ ch _ := (upd c 0 (u64p (c 0)), ch == 0)

end Go.Proofs.Ytalpjipopipncaa
