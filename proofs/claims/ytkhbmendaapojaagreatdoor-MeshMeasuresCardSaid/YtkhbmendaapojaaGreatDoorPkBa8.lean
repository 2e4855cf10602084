/- Code on abstract values: what must hold for a piece of code to end well; regions in the text's order, calls, branches. -/
import Derived.Test.YtkhbmendaapojaaGreatDoorPkBa7
import Derived.RangeFuncLeaves
set_option linter.unusedSimpArgs false
set_option linter.unusedVariables false
/- Code on abstract values: what must hold for a piece of code to end well; regions in the text's order, calls, branches. -/
namespace Go.Vx
open Go Go.RowKit

inductive Ex where
  | normal | ret
  | exit (n : Nat)
  | goto (n : Nat)
  | pan (v : V)
inductive DV where
  | call (f : V) (args : List V)

structure Env where
  P : Program
  T : Tab
  inl : Nat → Option Func
  ok : Nat → Bool
  /-- Functions that hand out a row of their own. -/
  fr : Nat → Bool
  ext : Nat → Option (List V → PR)
  /-- Of an append both outcomes are gone into: a new row, the old one staying; the old row's place. -/
  two : Bool := false

/-! ### What is meant -/
def ExRel (ρ : List (Option TE)) (I : Imm) : Ex → Exit → Prop
  | .normal, .normal => True
  | .ret, .ret => True
  | .exit n, .exit m => n = m
  | .goto n, .goto m => n = m
  | .pan v, .panic [c] => c.recovered = false ∧ c.goexit = false ∧ Rel ρ I v c.v
  | _, _ => False
/-- Values that tell by themselves which memory they lead to. -/
def toldV : Nat → V → Bool
  | 0, _ => false
  | n + 1, v => match v with
    | .bool _ | .int _ _ | .str _ | .nilPtr | .nilSl | .nilMap | .nilFunc | .nilIface | .any | .ptr _ _ _ | .map _ | .yld _ => true
    | .iface _ v => toldV n v
    | .agg l => l.all (toldV n)
    | .tup l => l.all (toldV n)
    | .fn _ l => l.all (toldV n)
    | _ => false
/-- What an activation has deferred: the marks of loops over functions that are behind it, in whose rounds nothing was deferred: blocks that nobody else speaks of, made since lo. -/
def DRel (lo : Nat) (ρ : List (Option TE)) (I : Imm) (L : List Blk) (w : World) (ds : List DV) (l : List Deferred) : Prop :=
  ds = [] ∧ lo ≤ w.heap.size ∧ ∃ bs : List Nat, l.map (·.target) = bs.map Target.collected ∧ bs.Nodup ∧ ∀ b ∈ bs, lo ≤ b ∧ w.heap[b]? = some (.deferred (some [])) ∧ ¬ Own ρ L b ∧ I b = none
theorem DRel.step {lo ρ I L w ρ' I' L' w'} (hs : Stp ρ I L w ρ' I' L' w') {ds : List DV} {l : List Deferred} (h : DRel lo ρ I L w ds l) : DRel lo ρ' I' L' w' ds l := by
  obtain ⟨h1, h0, bs, h2, h3, h4⟩ := h
  refine ⟨h1, Nat.le_trans h0 hs.size, bs, h2, h3, fun b hb => ?_⟩
  obtain ⟨k1, k2, k3, k4⟩ := h4 b hb
  have hlt : b < w.heap.size := (Array.getElem?_eq_some_iff.1 k2).1
  refine ⟨k1, by rw [hs.frame b hlt k3]; exact k2, fun ho => ?_, ?_⟩
  · rcases hs.own b ho with h5 | h5
    · exact k3 h5
    · omega
  · cases hc : I' b with
    | none => rfl
    | some o =>
      rcases hs.imn b o hc with h5 | h5 | h5
      · rw [k4] at h5; cases h5
      · exact absurd h5 k3
      · omega
theorem DRel.nil (ρ I L) (w : World) : DRel w.heap.size ρ I L w [] [] := ⟨rfl, Nat.le_refl _, [], rfl, .nil, fun b hb => by simp at hb⟩

/-- A call, on abstract arguments and memory. -/
def CallS (P : Program) (f : Nat) (Vs : List V) (L : List Blk) (K : Out → List Blk → Prop) : Prop :=
  ∀ ρ I w (xs : Array Value), Mod ρ I L w → Rels ρ I Vs xs.toList → Calls P f xs w fun e w' =>
    ∃ o ρ' I' L', K o L' ∧ OutRel ρ' I' o e ∧ Mod ρ' I' L' w' ∧ Stp ρ I L w ρ' I' L' w'

/-- How an activation stands: within a round of the loop whose record a tag names, or not. -/
def RndRel (ρ : List (Option TE)) : Option Nat → Option Nat → Prop
  | none, none => True
  | some t, some b => ∃ te, ρ[t]? = some (some te) ∧ te.b = b
  | _, _ => False

abbrev KT := Ex → List V → List Blk → List DV → Prop

/-- A piece of code, on abstract temporaries and memory. -/
def CodeS (P : Program) (rt : Option Nat) (c : Code) (tm : List V) (L : List Blk) (ds : List DV) (K : KT) : Prop :=
  ∀ lo ρ I (a : Act) w r, RndRel ρ rt r → Mod ρ I L w → Rels ρ I tm a.tmps.toList → DRel lo ρ I L w ds a.defers → c.wpIn (FR r) 0 P (fun e a' w' =>
    ∃ ex tm' L' ds' ρ' I', K ex tm' L' ds' ∧ ExRel ρ' I' ex e ∧ Mod ρ' I' L' w' ∧ Rels ρ' I' tm' a'.tmps.toList ∧ DRel lo ρ' I' L' w' ds' a'.defers ∧ Stp ρ I L w ρ' I' L' w') a w

/-- What a piece of code comes to, as the model has it. -/
def Post (lo : Nat) (K : KT) (ρ : List (Option TE)) (I : Imm) (L : List Blk) (w : World) (e : Exit) (a' : Act) (w' : World) : Prop :=
  ∃ ex tm' L' ds' ρ' I', K ex tm' L' ds' ∧ ExRel ρ' I' ex e ∧ Mod ρ' I' L' w' ∧ Rels ρ' I' tm' a'.tmps.toList ∧ DRel lo ρ' I' L' w' ds' a'.defers ∧ Stp ρ I L w ρ' I' L' w'

theorem Post.step {lo : Nat} {K : KT} {ρ I L w ρ1 I1 L1 w1 e a' w'} (hs : Stp ρ I L w ρ1 I1 L1 w1) (h : Post lo K ρ1 I1 L1 w1 e a' w') : Post lo K ρ I L w e a' w' := by
  obtain ⟨ex, tm', L', ds', ρ', I', h1, h2, h3, h4, h5, h6⟩ := h
  exact ⟨ex, tm', L', ds', ρ', I', h1, h2, h3, h4, h5, hs.trans h6⟩

/-! ### The conditions, reckoned -/
def branch (c : Bool) (p q : Prop) : Prop := @Bool.rec (fun _ => Prop) q p c
theorem branchI {c : Bool} {p q : Prop} (h : c = true → p) (h' : c = false → q) : branch c p q := by
  cases c
  · exact h' rfl
  · exact h rfl
theorem branchT {c : Bool} {p q : Prop} (hc : c = true) (h : p) : branch c p q := by subst hc; exact h
theorem branchF {c : Bool} {p q : Prop} (hc : c = false) (h : q) : branch c p q := by subst hc; exact h
theorem branch_iff {c : Bool} {p q : Prop} : branch c p q ↔ (c = true → p) ∧ (c = false → q) := by cases c <;> simp [branch]

def setK {α : Type} (K : List α → Prop) : List α → Nat → α → Prop
  | [], _, _ => K []
  | _ :: l, 0, v => K (v :: l)
  | x :: l, n + 1, v => setK (fun l' => K (x :: l')) l n v
theorem setK_eq {α : Type} {K : List α → Prop} {l : List α} {n : Nat} {v : α} : setK K l n v ↔ K (l.set n v) := by
  induction l generalizing n K with
  | nil => simp [setK]
  | cons x l ih => cases n <;> simp [setK, ih]
def appK {α : Type} (K : List α → Nat → Prop) : List α → Nat → α → Prop
  | [], n, v => K [v] n
  | x :: l, n, v => appK (fun l' n => K (x :: l') n) l (n + 1) v
theorem appK_eq {α : Type} {K : List α → Nat → Prop} {l : List α} {n : Nat} {v : α} : appK K l n v ↔ K (l ++ [v]) (n + l.length) := by
  induction l generalizing n K with
  | nil => simp [appK]
  | cons x l ih => simp [appK, ih, Nat.add_assoc, Nat.add_comm 1]
/-- A value of one cell, reckoned (a group's cells stay as they are). -/
def force0 (K : V → Prop) : V → Prop
  | .bool b => K (.bool b)
  | .int k n => K (.int k n)
  | .str l => K (.str l)
  | .nilPtr => K .nilPtr
  | .nilSl => K .nilSl
  | .nilMap => K .nilMap
  | .nilFunc => K .nilFunc
  | .nilIface => K .nilIface
  | .ptr t i s => K (.ptr t i s)
  | .sl t z o l c => K (.sl t z o l c)
  | .slf t z o l c => K (.slf t z o l c)
  | .ro z l f => K (.ro z l f)
  | .ep z l f i s => K (.ep z l f i s)
  | .fn f l => K (.fn f l)
  | .iface t v => K (.iface t v)
  | .agg l => K (.agg l)
  | .tup l => K (.tup l)
  | .map t => K (.map t)
  | .yld t => K (.yld t)
  | .any => K .any
  | .sp a b c d => K (.sp a b c d)
  | .glob g => K (.glob g)
theorem force0_eq {K : V → Prop} {v : V} : force0 K v ↔ K v := by cases v <;> exact Iff.rfl
/-- A value reckoned, with a group's cells: none of them keeps the operand (and with it all temporaries) that it came from. -/
def forceV (K : V → Prop) : V → Prop
  | .bool b => K (.bool b)
  | .int k n => K (.int k n)
  | .str l => K (.str l)
  | .nilPtr => K .nilPtr
  | .nilSl => K .nilSl
  | .nilMap => K .nilMap
  | .nilFunc => K .nilFunc
  | .nilIface => K .nilIface
  | .ptr t i s => K (.ptr t i s)
  | .sl t z o l c => K (.sl t z o l c)
  | .slf t z o l c => K (.slf t z o l c)
  | .ro z l f => K (.ro z l f)
  | .ep z l f i s => K (.ep z l f i s)
  | .fn f l => K (.fn f l)
  | .iface t v => K (.iface t v)
  | .agg l => forceL (fun l => K (.agg l)) l
  | .tup l => forceL (fun l => K (.tup l)) l
  | .map t => K (.map t)
  | .yld t => K (.yld t)
  | .any => K .any
  | .sp a b c d => K (.sp a b c d)
  | .glob g => K (.glob g)
where forceL (K : List V → Prop) : List V → Prop
  | [] => K []
  | v :: l => force0 (fun v => forceL (fun l' => K (v :: l')) l) v
theorem forceL_eq {K : List V → Prop} {l : List V} : forceV.forceL K l ↔ K l := by
  induction l generalizing K with
  | nil => exact Iff.rfl
  | cons v l ih => simp [forceV.forceL, force0_eq, ih]
theorem forceV_eq {K : V → Prop} {v : V} : forceV K v ↔ K v := by cases v <;> first | exact Iff.rfl | exact forceL_eq (K := fun l => K _)

def putK (K : List V → Prop) (tm : List V) (dst : Option Nat) (v : V) : Prop :=
  match dst with
  | none => K tm
  | some d => setK K tm d v
def putT (tm : List V) (dst : Option Nat) (v : V) : List V :=
  match dst with
  | none => tm
  | some d => tm.set d v
theorem putK_eq {K : List V → Prop} {tm : List V} {dst : Option Nat} {v : V} : putK K tm dst v ↔ K (putT tm dst v) := by cases dst <;> simp [putK, putT, setK_eq]

def killO (L : List Blk) : Option Nat → List Blk
  | none => L
  | some t => L.set t .dead
def killK (K : List Blk → Prop) (L : List Blk) : Option Nat → Prop
  | none => K L
  | some t => setK K L t .dead
theorem killK_eq {K : List Blk → Prop} {L : List Blk} {t : Option Nat} : killK K L t ↔ K (killO L t) := by cases t <;> simp [killK, killO, setK_eq]

def evPR (pr : PR) (tm : List V) (L : List Blk) (dst : Option Nat) (K : List V → List Blk → Prop) : Prop :=
  match pr with
  | .val v => forceV (fun v => putK (fun tm => K tm L) tm dst v) v
  | .upd t b => setK (fun L => putK (fun tm => K tm L) tm dst (.tup [])) L t b
  | .updv t b v => setK (fun L => forceV (fun v => putK (fun tm => K tm L) tm dst v) v) L t b
  | .br c r r' => branch c (evPR r tm L dst K) (evPR r' tm L dst K)
  | .all p r => ∀ i, p i → evPR (r i) tm L dst K
  | .new b _ _ _ v => appK (fun L n => forceV (fun v => putK (fun tm => K tm L) tm dst v) (v n)) L 0 b
  | .grd c r => branch c (evPR r tm L dst K) False
  | .req p r => p ∧ evPR r tm L dst K
  | .app t _ b _ _ v => killK (fun L => appK (fun L n => forceV (fun v => putK (fun tm => K tm L) tm dst v) (v n)) L 0 b) L t
  | .bad => False

/-! Both outcomes of an append: in the old row's place what spoke of its tag may speak of the new one. -/
def ren1 (t k n : Nat) (K : V → Prop) : V → Prop
  | .sl s z o l c => match natEq s t with
    | true => (o + l ≤ n ∧ K (.sl k z o l c)) ∨ K (.sl s z o l c)
    | false => K (.sl s z o l c)
  | .ptr s i u => match natEq s t with
    | true => (i < n ∧ K (.ptr k i u)) ∨ K (.ptr s i u)
    | false => K (.ptr s i u)
  | .bool b => K (.bool b)
  | .int k n => K (.int k n)
  | .str l => K (.str l)
  | .nilPtr => K .nilPtr
  | .nilSl => K .nilSl
  | .nilMap => K .nilMap
  | .nilFunc => K .nilFunc
  | .nilIface => K .nilIface
  | .slf t z o l c => K (.slf t z o l c)
  | .ro z l f => K (.ro z l f)
  | .ep z l f i s => K (.ep z l f i s)
  | .fn f l => K (.fn f l)
  | .iface t v => K (.iface t v)
  | .agg l => K (.agg l)
  | .tup l => K (.tup l)
  | .map t => K (.map t)
  | .yld t => K (.yld t)
  | .any => K .any
  | .sp a b c d => K (.sp a b c d)
  | .glob g => K (.glob g)
def ren1s (t k n : Nat) (K : List V → Prop) : List V → Prop
  | [] => K []
  | v :: l => ren1 t k n (fun v => ren1s t k n (fun l => K (v :: l)) l) v
def renBs (t k n : Nat) (K : List Blk → Prop) : List Blk → Prop
  | [] => K []
  | b :: L => match b with
    | .fix e cs => ren1s t k n (fun cs => renBs t k n (fun L => K (.fix e cs :: L)) L) cs
    | b => renBs t k n (fun L => K (b :: L)) L
def evP2 (pr : PR) (tm : List V) (L : List Blk) (dst : Option Nat) (K : List V → List Blk → Prop) : Prop :=
  match pr with
  | .val v => evPR (.val v) tm L dst K
  | .upd t b => evPR (.upd t b) tm L dst K
  | .updv t b v => evPR (.updv t b v) tm L dst K
  | .new b n m sz v => evPR (.new b n m sz v) tm L dst K
  | .br c r r' => branch c (evP2 r tm L dst K) (evP2 r' tm L dst K)
  | .all p r => ∀ i, p i → evP2 (r i) tm L dst K
  | .grd c r => branch c (evP2 r tm L dst K) False
  | .req p r => p ∧ evP2 r tm L dst K
  | .app t off b n _ v => (appK (fun L k => forceV (fun v => putK (fun tm => K tm L) tm dst v) (v k)) L 0 b) ∧
      match t with
      | none => True
      | some t => match off with
        | 0 => appK (fun L k => setK (renBs t k n (fun L => ren1s t k n (fun tm => forceV (fun v => putK (fun tm => K tm L) tm dst v) (v k)) tm)) L t .dead) L 0 b
        | _ + 1 => False
  | .bad => False

def getOp : List Oper → Nat → Option Oper
  | [], _ => none
  | o :: _, 0 => some o
  | _ :: l, n + 1 => getOp l n

/-- Is the operation carried out? -/
def wantK (all : List Oper) (tm : List V) (g : Option (Nat × Bool)) (K : Bool → List V → Prop) : Prop :=
  match g with
  | none => K true tm
  | some (j, want) => match getOp all j with
    | some oj => match oj.dst with
      | some d => match nthV tm d with
        | .bool b => match want with
          | true => branch b (setK (K true) tm d (.bool true)) (setK (K false) tm d (.bool false))
          | false => branch b (setK (K false) tm d (.bool true)) (setK (K true) tm d (.bool false))
        | .tup _ => K false tm
        | _ => False
      | none => False
    | none => False

/-- The function that an operation calls, with the arguments that it is handed. -/
def callee (tm : List V) (c : Call) : Option (Nat × List V) :=
  match c.callee with
  | .value f => match evO tm f with
    | .fn (.func g) caps => some (g, c.args.toList.map (evO tm) ++ caps)
    | _ => none
  | _ => none

/-- A round that an operation asks for. -/
def calleeY (tm : List V) (c : Call) : Option (Nat × List V) :=
  match c.callee with
  | .value f => match evO tm f with
    | .yld t => some (t, c.args.toList.map (evO tm))
    | _ => none
  | _ => none

def results' (T : Tab) (tm : List V) (L : List Blk) : List ResultVar → Option (List V)
  | [] => some []
  | .tmp t :: l => match results' T tm L l with
    | some r => some (nthV tm t :: r)
    | none => none
  | .cell a t :: l => match ptrLoad T t L (nthV tm a), results' T tm L l with
    | some v, some r => some (v :: r)
    | _, _ => none
def oneOr : List V → V
  | [v] => v
  | l => .tup l

noncomputable def undefs (n : Nat) : List V := Nat.rec [] (fun _ l => .tup [] :: l) n
noncomputable def padTo : List V → Nat → List V
  | [], n => undefs n
  | v :: l, n + 1 => v :: padTo l n
  | v :: l, 0 => v :: l

def isCallOp (o : Op) : Option Call :=
  match o with
  | .call c => match c.callee with
    | .builtin _ => none
    | _ => some c
  | _ => none
def isPanicOp (o : Op) : Option Operand :=
  match o with
  | .panic x => some x
  | _ => none

def isNextOp (o : Op) : Option (Operand × Bool) :=
  match o with
  | .next x s => some (x, s)
  | _ => none

/-- How a function leaves: its results, or the panic that it passes up (no deferred calls but marks of loops that are over). -/
def leaveK (T : Tab) (fn : Func) (tm : List V) (K : Out → List Blk → Prop) (p : Option V) : List DV → List Blk → Prop
  | [], L => match p with
    | none => match results' T tm L fn.results.toList with
      | some r => forceV (fun v => K (.ret v) L) (oneOr r)
      | none => False
    | some v => K (.pan v) L
  | _ :: _, _ => False

/-- How a function's code ends. -/
def finK (T : Tab) (fn : Func) (K : Out → List Blk → Prop) : KT := fun e tm L ds => match e with
  | .normal => leaveK T fn tm K none ds L
  | .ret => leaveK T fn tm K none ds L
  | .pan v => leaveK T fn tm K (some v) ds L
  | _ => False

/-- A call that is left to a theorem. -/
def CallV (P : Program) (f : Nat) (Vs : List V) (L : List Blk) (K : Out → List Blk → Prop) : Prop := CallS P f Vs L K
/-- A loop that is left to a theorem. -/
def LoopV (P : Program) (rt : Option Nat) (body : Code) (tm : List V) (L : List Blk) (ds : List DV) (K : KT) : Prop := CodeS P rt (.loop body) tm L ds K
/-- Code that is left to a theorem. -/
def CodeV (P : Program) (rt : Option Nat) (c : Code) (tm : List V) (L : List Blk) (ds : List DV) (K : KT) : Prop := CodeS P rt c tm L ds K

/-! ### One operation -/
def evStep (E : Env) (call yld : Nat → List V → List Blk → (Out → List Blk → Prop) → Prop) (all : List Oper) (o : Oper) (tm : List V) (L : List Blk) (ds : List DV) (K : KT) (next : List V → List Blk → Prop) : Prop :=
  wantK all tm o.guard fun b tm => match b with
    | false => putK (fun tm => next tm L) tm o.dst (.tup [])
    | true => match isCallOp o.op with
      | some c => match callee tm c with
        | some (g, args) => match E.ok g with
          | true => call g args L fun out L => match out with
            | .ret v => forceV (fun v => putK (fun tm => next tm L) tm o.dst v) v
            | .pan v => K (.pan v) tm L ds
          | false => match E.ext g with
            | some h => evPR (h args) tm L o.dst next
            | none => False
        | none => match calleeY tm c with
          | some (t, args) => yld t args L fun out L => match out with
            | .ret v => forceV (fun v => putK (fun tm => next tm L) tm o.dst v) v
            | .pan _ => False
          | none => False
      | none => match isPanicOp o.op with
        | some x => match evO tm x with
          | .iface t v => K (.pan (.iface t v)) tm L ds
          | _ => False
        | none => match isNextOp o.op with
          | some (x, isS) => evPR (nextV L (evO tm x) isS) tm L o.dst next
          | none => match E.two with
            | true => evP2 (prim E.T tm L o.op) tm L o.dst next
            | false => evPR (prim E.T tm L o.op) tm L o.dst next

/-! ### Regions that draw their order: records -/
def forceN (K : Nat → Prop) : Nat → Prop
  | 0 => K 0
  | n + 1 => K (n + 1)
theorem forceN_eq {K : Nat → Prop} {n : Nat} : forceN K n ↔ K n := by cases n <;> exact Iff.rfl

def opsOf : Op → List Operand
  | .move x => [x]
  | .assign x => [x]
  | .box _ x => [x]
  | .load _ x => [x]
  | .nilCheck x => [x]
  | .unOp _ _ x => [x]
  | .convert _ _ x => [x]
  | .makeInterface _ x => [x]
  | .fieldAddr _ x _ => [x]
  | .field _ x _ => [x]
  | .extract x _ => [x]
  | .pick c a b => [c, a, b]
  | .build _ parts => parts.toList.map (·.2)
  | .buildSlice _ _ parts => parts.toList.map (·.2)
  | .store _ x y => [x, y]
  | .binOp _ _ x y _ => [x, y]
  | .makeFunc _ _ caps => caps.toList
  | .makeSlice _ l c => [l, c]
  | .slice _ x lo hi mx => x :: (lo.toList ++ (hi.toList ++ mx.toList))
  | .indexAddr _ x i => [x, i]
  | .index _ x i => [x, i]
  | .lookup _ x i _ => [x, i]
  | .mapUpdate _ x k v => [x, k, v]
  | .mapEntry _ x k => [x, k]
  | .entryStore _ x k v => [x, k, v]
  | .range _ x => [x]
  | .call c => match c.callee with
    | .value f => f :: c.args.toList
    | _ => c.args.toList
  | _ => []
/-- The operands whose memory an operation may look into. -/
def memOps : Op → List Operand
  | .move _ | .assign _ | .pick _ _ _ | .build _ _ | .unOp _ _ _ | .makeInterface _ _ | .fieldAddr _ _ _ | .field _ _ _ | .indexAddr _ _ _ | .index _ _ _ | .extract _ _ | .nilCheck _ => []
  | op => opsOf op
def slotBits : List Operand → Nat
  | [] => 0
  | .tmp t :: l => Nat.lor (Nat.shiftLeft 1 t) (slotBits l)
  | _ :: l => slotBits l
def guardBits (all : List Oper) : Option (Nat × Bool) → Nat
  | none => 0
  | some (j, _) => match getOp all j with
    | some oj => match oj.dst with
      | some d => Nat.shiftLeft 1 d
      | none => 0
    | none => 0
def topT : V → List Nat
  | .ptr t _ _ => [t]
  | .sl t _ _ _ _ => [t]
  | .slf t _ _ _ _ => [t]
  | .map t => [t]
  | .sp t _ _ _ => [t]
  | _ => []
def natBits : List Nat → Nat
  | [] => 0
  | t :: l => Nat.lor (Nat.shiftLeft 1 t) (natBits l)
def topBits (tm : List V) : List Operand → Nat
  | [] => 0
  | x :: l => Nat.lor (natBits (topT (evO tm x))) (topBits tm l)

def putsK : List (Nat × Blk) → (List Blk → Prop) → List Blk → Prop
  | [], K, L => K L
  | (t, b) :: u, K, L => setK (putsK u K) L t b
def wsOf (dst : Option Nat) (v : V) : List (Nat × V) :=
  match dst with
  | none => []
  | some d => [(d, v)]
def upK : List (Nat × Blk) → Nat → (Nat → Prop) → Prop
  | [], acc, K => K acc
  | (t, _) :: l, acc, K => forceN (fun t => upK l (Nat.lor (Nat.shiftLeft 1 t) acc) K) t
def upA : List (Nat × Blk) → Nat → Nat
  | [], acc => acc
  | (t, _) :: l, acc => upA l (Nat.lor (Nat.shiftLeft 1 t) acc)
theorem upK_eq {K : Nat → Prop} : ∀ {l : List (Nat × Blk)} {acc : Nat}, upK l acc K ↔ K (upA l acc)
  | [], _ => Iff.rfl
  | (t, b) :: l, acc => by simp only [upK, forceN_eq, upK_eq (l := l), upA]
theorem upA_eq : ∀ {l : List (Nat × Blk)} {acc : Nat}, upA l acc = Nat.lor (bitsOf l) acc
  | [], acc => (Nat.zero_or acc).symm
  | (t, b) :: l, acc => by
    rw [upA, upA_eq (l := l), bitsOf]
    show bitsOf l ||| (Nat.shiftLeft 1 t ||| acc) = (Nat.shiftLeft 1 t ||| bitsOf l) ||| acc
    rw [← Nat.or_assoc, Nat.or_comm (bitsOf l)]
def topK (tm : List V) : List Operand → Nat → (Nat → Prop) → Prop
  | [], acc, K => K acc
  | x :: l, acc, K => match topT (evO tm x) with
    | [] => topK tm l acc K
    | t :: _ => forceN (fun t => topK tm l (Nat.lor (Nat.shiftLeft 1 t) acc) K) t
def topA (tm : List V) : List Operand → Nat → Nat
  | [], acc => acc
  | x :: l, acc => match topT (evO tm x) with
    | [] => topA tm l acc
    | t :: _ => topA tm l (Nat.lor (Nat.shiftLeft 1 t) acc)
theorem topK_eq {tm : List V} {K : Nat → Prop} : ∀ {l : List Operand} {acc : Nat}, topK tm l acc K ↔ K (topA tm l acc)
  | [], _ => Iff.rfl
  | x :: l, acc => by
    simp only [topK, topA]
    split
    · exact topK_eq
    · rw [forceN_eq]; exact topK_eq
theorem topA_acc {tm : List V} {s : Nat} : ∀ {l : List Operand} {acc : Nat}, Nat.testBit acc s = true → Nat.testBit (topA tm l acc) s = true
  | [], _, h => h
  | x :: l, acc, h => by
    simp only [topA]
    split
    · exact topA_acc h
    · exact topA_acc (by rw [bit_lor, h]; simp)
theorem topT_one (v : V) : topT v = [] ∨ ∃ t, topT v = [t] := by cases v <;> simp [topT]
theorem topA_mem {tm : List V} {x : Operand} {s : Nat} : ∀ {l : List Operand} {acc : Nat}, x ∈ l → s ∈ topT (evO tm x) → Nat.testBit (topA tm l acc) s = true
  | [], _, h, _ => by simp at h
  | y :: l, acc, h, hs => by
    simp only [topA]
    rcases List.mem_cons.1 h with rfl | h
    · rcases topT_one (evO tm x) with h0 | ⟨t, h0⟩
      · rw [h0] at hs; simp at hs
      · rw [h0] at hs ⊢
        simp at hs; subst hs
        exact topA_acc (by rw [bit_lor, bit_one]; simp)
    · split
      · exact topA_mem h hs
      · exact topA_mem h hs
def forceNs (K : List Nat → Prop) : List Nat → Prop
  | [] => K []
  | t :: l => forceN (fun t => forceNs (fun l => K (t :: l)) l) t
theorem forceNs_eq {K : List Nat → Prop} {l : List Nat} : forceNs K l ↔ K l := by
  induction l generalizing K with
  | nil => exact Iff.rfl
  | cons t l ih => simp [forceNs, forceN_eq, ih]
def forceRB (r : Rec) (K : RB → Prop) : Prop := forceN (fun m => forceN (fun rt => forceN (fun db => forceN (fun wt => K ⟨m, rt, db, wt⟩) r.wt) r.db) r.rt) r.m
theorem forceRB_eq {r : Rec} {K : RB → Prop} : forceRB r K ↔ K r.b := by simp only [forceRB, forceN_eq]; exact Iff.rfl
def recK (dst : Option Nat) (m rt : Nat) (v : V) (up : List (Nat × Blk)) (tm : List V) (L : List Blk) (next : Rec → List V → List Blk → Prop) : Prop :=
  forceV (fun v => forceN (fun m => forceN (fun rt => forceN (fun db => upK up 0 fun wt => forceN (fun wt => putsK up (fun L => putK (fun tm => next ⟨wsOf dst v, up, m, rt, db, wt⟩ tm L) tm dst v) L) wt) (bitsOf (wsOf dst v))) rt) m) v
def evRec (pr : PR) (dst : Option Nat) (m rt tag : Nat) (tm : List V) (L : List Blk) (next : Rec → List V → List Blk → Prop) : Prop :=
  match pr with
  | .val v => recK dst m rt v [] tm L next
  | .upd t b => recK dst m rt (.tup []) [(t, b)] tm L next
  | .updv t b v => recK dst m rt v [(t, b)] tm L next
  | .br c r r' => branch c (evRec r dst m rt tag tm L next) (evRec r' dst m rt tag tm L next)
  | .all _ _ => False
  | .new b _ _ _ v => match nth L tag with
    | some .dead => recK dst m (Nat.lor (Nat.shiftLeft 1 tag) rt) (v tag) [(tag, b)] tm L next
    | _ => False
  | .grd c r => branch c (evRec r dst m rt tag tm L next) False
  | .req p r => p ∧ evRec r dst m rt tag tm L next
  | .app t _ b _ _ v => match nth L tag with
    | some .dead => match t with
      | none => recK dst m (Nat.lor (Nat.shiftLeft 1 tag) rt) (v tag) [(tag, b)] tm L next
      | some t => recK dst m (Nat.lor (Nat.shiftLeft 1 tag) rt) (v tag) [(t, .dead), (tag, b)] tm L next
    | _ => False
  | .bad => False
def killU : List Nat → List (Nat × Blk)
  | [] => []
  | t :: ts => (t, .dead) :: killU ts
theorem putsL_killU : ∀ (kl : List Nat) (L : List Blk), putsL L (killU kl) = killL L kl
  | [], _ => rfl
  | t :: ts, L => putsL_killU ts (L.set t .dead)
/-- A call that hands out a row of its own. -/
def CallFV (P : Program) (g : Nat) (args : List V) (b : Blk) (n sz : Nat) (v : Nat → V) : Prop :=
  ∀ ρ I L w (xs : Array Value), Mod ρ I L w → Rels ρ I args xs.toList → Calls P g xs w fun e w' => ∃ x, e = .returned x ∧ AppW ρ I L w x w' none 0 b n sz v
def evRec1 (E : Env) (all : List Oper) (o : Oper) (tag : Nat) (tm : List V) (L : List Blk) (next : Rec → List V → List Blk → Prop) : Prop :=
  wantK all tm o.guard fun b tm => match b with
    | false => recK o.dst (guardBits all o.guard) 0 (.tup []) [] tm L next
    | true => match isCallOp o.op with
      | some c => match callee tm c with
        | some (g, args) => match E.fr g with
          | true => ∃ b n sz v, CallFV E.P g args b n sz v ∧ (match nth L tag with
            | some .dead => recK o.dst (Nat.lor (guardBits all o.guard) (slotBits (opsOf o.op))) (Nat.lor (Nat.shiftLeft 1 tag) 0) (v tag) [(tag, b)] tm L next
            | _ => False)
          | false => match E.ok g with
            | true => ∃ v kl, CallDV E.P g args L v kl ∧ forceNs (fun ts => recK o.dst (Nat.lor (guardBits all o.guard) (slotBits (opsOf o.op))) (natBits ts) v (killU kl) tm L next) (tagsL L args)
            | false => match E.ext g with
              | some h => evRec (h args) o.dst (Nat.lor (guardBits all o.guard) (slotBits (opsOf o.op))) 0 tag tm L next
              | none => False
        | none => False
      | none => match isPanicOp o.op with
        | some _ => False
        | none => topK tm (memOps o.op) 0 fun tb => evRec (prim E.T tm L o.op) o.dst (Nat.lor (guardBits all o.guard) (slotBits (opsOf o.op))) tb tag tm L next

structure It where
  o : Oper
  anc : Nat
  cut : Bool

def ancOf (acc : List Nat) : List Edge → Nat → Nat
  | [], s => s
  | e :: es, s => match Region.binds .any e with
    | true => ancOf acc es (Nat.lor (Nat.lor s (Nat.shiftLeft 1 e.on)) (match nth acc e.on with | some a => a | none => 0))
    | false => ancOf acc es s
def backB (i : Nat) : List Edge → Bool
  | [] => true
  | e :: es => match Region.binds .any e with
    | true => match Nat.ble i e.on with
      | true => false
      | false => backB i es
    | false => backB i es
def ancK : List Oper → Nat → List Nat → (List Nat → Prop) → Prop
  | [], _, acc, K => K acc
  | o :: os, i, acc, K => match backB i o.after.toList with
    | true => forceN (fun a => appK (fun acc _ => ancK os (i + 1) acc K) acc 0 a) (ancOf acc o.after.toList 0)
    | false => False
def ones (n : Nat) : Nat := Nat.sub (Nat.shiftLeft 1 n) 1
/-- The operations with what binds them, and whether all that follows waits for all up to here. -/
def itK (n : Nat) : List Oper → List Nat → Nat → (List It → Nat → Prop) → Prop
  | o :: os, a :: anl, i, K => itK n os anl (i + 1) fun its M => forceN (fun M' => match Nat.beq (Nat.land M (ones (i + 1))) (ones (i + 1)) with
    | true => K (⟨o, a, true⟩ :: its) M'
    | false => K (⟨o, a, false⟩ :: its) M') (Nat.land M a)
  | _, _, _, K => K [] (ones n)
def newOp : Op → Bool
  | .alloc _ | .box _ _ | .buildSlice _ _ _ | .makeSlice _ _ _ | .makeMap _ _ | .convert _ _ _ | .range _ _ => true
  | .call c => match c.callee with
    | .builtin _ => false
    | _ => true
  | _ => false
/-- Room for what the operations up to the next cut make, where any makes something. -/
def roomB : List It → Bool
  | [] => false
  | it :: its => match newOp it.o.op with
    | true => true
    | false => match it.cut with
      | true => false
      | false => roomB its
def roomN : List It → List Blk
  | [] => []
  | it :: its => match it.cut with
    | true => [.dead]
    | false => .dead :: roomN its
def catK (K : List Blk → Nat → Prop) (x : List Blk) : List Blk → Nat → Prop
  | [], n => K x n
  | b :: l, n => catK (fun l n => K (b :: l) n) x l (n + 1)
def roomK (its : List It) (L : List Blk) (K : List Blk → Nat → Prop) : Prop :=
  match roomB its with
  | true => catK K (roomN its) L 0
  | false => K L (len L)

/-! ### Loops over functions -/
def setPsK : List Nat → List V → (List V → Prop) → List V → Prop
  | p :: ps, v :: vs, K, tm => setK (setPsK ps vs K) tm p v
  | _, _, K, tm => K tm
def jumpK (K : KT) (pend : Option Code) (tm : List V) (L : List Blk) (ds : List DV) : Prop :=
  match pend with
  | none => K .normal tm L ds
  | some .ret => K .ret tm L ds
  | some (.exit j) => K (.exit j) tm L ds
  | some (.goto j) => K (.goto j) tm L ds
  | some _ => False
/-- How a loop over a function goes on once the function is over. -/
def overK (K : KT) (l : Nat) (tm : List V) (L : List Blk) (ds : List DV) : Prop :=
  match nth L l with
  | some (.loop st pend _ _ _ _) => match st with
    | .busy => False
    | _ => setK (fun L => jumpK K pend tm L ds) L l .dead
  | _ => False
def aroundB (rt : Option Nat) (L : List Blk) : Bool :=
  match rt with
  | none => true
  | some t => match nth L t with
    | some (.loop ..) => true
    | _ => false

/-- A round's end: the record; what yield hands back. -/
def roundK (K : Out → List Blk → Prop) (t : Nat) : Ex → List V → List Blk → List DV → Prop := fun e _ L ds => match ds with
  | [] => match nth L t with
    | some (.loop _ _ tm0 ps asg body) => match e with
      | .normal => setK (fun L => K (.ret (.bool true)) L) L t (.loop .ready none tm0 ps asg body)
      | .ret => setK (fun L => K (.ret (.bool false)) L) L t (.loop .done (some .ret) tm0 ps asg body)
      | .exit j => setK (fun L => K (.ret (.bool false)) L) L t (.loop .done (some (.exit j)) tm0 ps asg body)
      | .goto j => setK (fun L => K (.ret (.bool false)) L) L t (.loop .done (some (.goto j)) tm0 ps asg body)
      | .pan _ => False
    | _ => False
  | _ => False
/-- A round's beginning, behind the assignments to the loop's left sides. -/
def beginK (code : Option Nat → Code → List V → List Blk → List DV → KT → Prop) (K : Out → List Blk → Prop) (t : Nat) (body : Code) : Ex → List V → List Blk → List DV → Prop := fun e tm L ds => match e, ds with
  | .normal, [] => match nth L t with
    | some (.loop .ready pend tm0 ps asg body') => setK (fun L => code (some t) body tm L [] (roundK K t)) L t (.loop .busy pend tm0 ps asg body')
    | _ => False
  | _, _ => False
def yieldK (code : Option Nat → Code → List V → List Blk → List DV → KT → Prop) (t : Nat) (args : List V) (L : List Blk) (K : Out → List Blk → Prop) : Prop :=
  match nth L t with
  | some (.loop _ _ tm ps asg body) => match natEq (len args) (len ps.toList) with
    | true => setPsK ps.toList args (fun tm => code (some t) asg tm L [] (beginK code K t body)) tm
    | false => False
  | _ => False

/-! All that follows goes by fuel. The recursor is used as it stands: so a walk's goals look the same to the elaborator and to the kernel. -/
structure Fns where
  ops : Option Nat → List Oper → List Oper → List V → List Blk → List DV → KT → Prop
  any : Option Nat → List Oper → List It → Nat → List V → List Blk → List DV → KT → Prop
  recs : Option Nat → List Oper → List It → Nat → Nat → List RB → List V → List Blk → List DV → KT → Prop
  call : Nat → List V → List Blk → (Out → List Blk → Prop) → Prop
  yld : Nat → List V → List Blk → (Out → List Blk → Prop) → Prop
  code : Option Nat → Code → List V → List Blk → List DV → KT → Prop
def zeroF : Fns where
  ops _ _ _ _ _ _ _ := False
  any _ _ _ _ _ _ _ _ := False
  recs _ _ _ _ _ _ _ _ _ _ := False
  call _ _ _ _ := False
  yld _ _ _ _ := False
  code _ _ _ _ _ _ := False
def stepF (E : Env) (F : Fns) : Fns where
  ops rt all l tm L ds K := match l with
    | [] => K .normal tm L ds
    | o :: rest => evStep E F.call F.yld all o tm L ds K fun tm L => F.ops rt all rest tm L ds K
  any rt all its i tm L ds K := match its with
    | [] => K .normal tm L ds
    | it :: rest => match it.cut with
      | true => evStep E F.call F.yld all it.o tm L ds K fun tm L => F.any rt all rest (i + 1) tm L ds K
      | false => roomK its L fun L base => F.recs rt all its i base [] tm L ds K
  recs rt all its i tag acc tm L ds K := match its with
    | [] => False
    | it :: rest => evRec1 E all it.o tag tm L fun r tm L => forceRB r fun r => match okB it.anc r i acc with
      | true => match it.cut with
        | true => F.any rt all rest (i + 1) tm L ds K
        | false => F.recs rt all rest (i + 1) (tag + 1) (r :: acc) tm L ds K
      | false => False
  call g args L K := match E.inl g with
    | some fn => match fn.body with
      | some c => forceV.forceL (fun args => F.code none c (padTo args fn.ntmps) L [] (finK E.T fn K)) args
      | none => False
    | none => CallV E.P g args L K
  yld t args L K := yieldK F.code t args L K
  code rt c tm L ds K := match c with
    | .skip => K .normal tm L ds
    | .label _ => K .normal tm L ds
    | .region _ ops draw => match draw with
      | false => F.ops rt ops.toList ops.toList tm L ds K
      | true => ancK ops.toList 0 [] fun anl => itK (len anl) ops.toList anl 0 fun its _ => F.any rt ops.toList its 0 tm L ds K
    | .seq a b => F.code rt a tm L ds fun e tm L ds => match e with
      | .normal => F.code rt b tm L ds K
      | e => K e tm L ds
    | .cond x a b => match evO tm x with
      | .bool t => match x with
        | .tmp d => branch t (setK (fun tm => F.code rt a tm L ds K) tm d (.bool true)) (setK (fun tm => F.code rt b tm L ds K) tm d (.bool false))
        | _ => branch t (F.code rt a tm L ds K) (F.code rt b tm L ds K)
      | _ => False
    | .block id body => F.code rt body tm L ds fun e tm L ds => match e with
      | .exit j => match natEq j id with
        | true => K .normal tm L ds
        | false => K (.exit j) tm L ds
      | e => K e tm L ds
    | .loop body => LoopV E.P rt body tm L ds K
    | .rangeFunc g ps asg body => match evO tm g with
      | .fn (.func f) caps => match E.ok f, aroundB rt L with
        | true, true => appK (fun L l => F.call f (.yld l :: caps) L fun out L => match out with
          | .ret _ => overK K l tm L ds
          | .pan v => K (.pan v) tm L ds) L 0 (.loop .ready none tm ps asg body)
        | _, _ => False
      | _ => False
    | .exit id => K (.exit id) tm L ds
    | .ret => K .ret tm L ds
    | .scope body => F.code rt body tm L ds fun e tm L ds => match e with
      | .goto _ => False
      | e => K e tm L ds
    | .goto l => K (.goto l) tm L ds
    | c => CodeV E.P rt c tm L ds K
def fnsOf (E : Env) (n : Nat) : Fns := Nat.rec (motive := fun _ => Fns) zeroF (fun _ F => stepF E F) n
/-- The operations of a region in the text's order. -/
def evOps (E : Env) (rt : Option Nat) (n : Nat) (all l : List Oper) (tm : List V) (L : List Blk) (ds : List DV) (K : KT) : Prop := (fnsOf E n).ops rt all l tm L ds K
/-- The operations of a region that draws its order, from a cut on. -/
def evAny (E : Env) (rt : Option Nat) (n : Nat) (all : List Oper) (its : List It) (i : Nat) (tm : List V) (L : List Blk) (ds : List DV) (K : KT) : Prop := (fnsOf E n).any rt all its i tm L ds K
/-- The same between cuts. -/
def evRecs (E : Env) (rt : Option Nat) (n : Nat) (all : List Oper) (its : List It) (i tag : Nat) (acc : List RB) (tm : List V) (L : List Blk) (ds : List DV) (K : KT) : Prop := (fnsOf E n).recs rt all its i tag acc tm L ds K
/-- A call: of a function whose body is walked through here, or one that is left to a theorem. -/
def evCall (E : Env) (n : Nat) (g : Nat) (args : List V) (L : List Blk) (K : Out → List Blk → Prop) : Prop := (fnsOf E n).call g args L K
/-- A round of a loop over a function. -/
def evYield (E : Env) (n : Nat) (t : Nat) (args : List V) (L : List Blk) (K : Out → List Blk → Prop) : Prop := (fnsOf E n).yld t args L K
/-- Code. -/
def vc (E : Env) (rt : Option Nat) (n : Nat) (c : Code) (tm : List V) (L : List Blk) (ds : List DV) (K : KT) : Prop := (fnsOf E n).code rt c tm L ds K

theorem evOps_succ {E : Env} {rt n all l tm L ds K} : evOps E rt (n + 1) all l tm L ds K = (match l with
    | [] => K .normal tm L ds
    | o :: rest => evStep E (fun g args L K => evCall E n g args L K) (fun t args L K => evYield E n t args L K) all o tm L ds K fun tm L => evOps E rt n all rest tm L ds K) := rfl
theorem evAny_succ {E : Env} {rt n all its i tm L ds K} : evAny E rt (n + 1) all its i tm L ds K = (match its with
    | [] => K .normal tm L ds
    | it :: rest => match it.cut with
      | true => evStep E (fun g args L K => evCall E n g args L K) (fun t args L K => evYield E n t args L K) all it.o tm L ds K fun tm L => evAny E rt n all rest (i + 1) tm L ds K
      | false => roomK its L fun L base => evRecs E rt n all its i base [] tm L ds K) := rfl
theorem evRecs_succ {E : Env} {rt n all its i tag acc tm L ds K} : evRecs E rt (n + 1) all its i tag acc tm L ds K = (match its with
    | [] => False
    | it :: rest => evRec1 E all it.o tag tm L fun r tm L => forceRB r fun r => match okB it.anc r i acc with
      | true => match it.cut with
        | true => evAny E rt n all rest (i + 1) tm L ds K
        | false => evRecs E rt n all rest (i + 1) (tag + 1) (r :: acc) tm L ds K
      | false => False) := rfl
theorem evCall_succ {E : Env} {n g args L K} : evCall E (n + 1) g args L K = (match E.inl g with
    | some fn => match fn.body with
      | some c => forceV.forceL (fun args => vc E none n c (padTo args fn.ntmps) L [] (finK E.T fn K)) args
      | none => False
    | none => CallV E.P g args L K) := rfl
theorem evYield_succ {E : Env} {n t args L K} : evYield E (n + 1) t args L K = yieldK (fun rt c tm L ds K => vc E rt n c tm L ds K) t args L K := rfl
theorem vc_succ {E : Env} {rt n c tm L ds K} : vc E rt (n + 1) c tm L ds K = (match c with
    | .skip => K .normal tm L ds
    | .label _ => K .normal tm L ds
    | .region _ ops draw => match draw with
      | false => evOps E rt n ops.toList ops.toList tm L ds K
      | true => ancK ops.toList 0 [] fun anl => itK (len anl) ops.toList anl 0 fun its _ => evAny E rt n ops.toList its 0 tm L ds K
    | .seq a b => vc E rt n a tm L ds fun e tm L ds => match e with
      | .normal => vc E rt n b tm L ds K
      | e => K e tm L ds
    | .cond x a b => match evO tm x with
      | .bool t => match x with
        | .tmp d => branch t (setK (fun tm => vc E rt n a tm L ds K) tm d (.bool true)) (setK (fun tm => vc E rt n b tm L ds K) tm d (.bool false))
        | _ => branch t (vc E rt n a tm L ds K) (vc E rt n b tm L ds K)
      | _ => False
    | .block id body => vc E rt n body tm L ds fun e tm L ds => match e with
      | .exit j => match natEq j id with
        | true => K .normal tm L ds
        | false => K (.exit j) tm L ds
      | e => K e tm L ds
    | .loop body => LoopV E.P rt body tm L ds K
    | .rangeFunc g ps asg body => match evO tm g with
      | .fn (.func f) caps => match E.ok f, aroundB rt L with
        | true, true => appK (fun L l => evCall E n f (.yld l :: caps) L fun out L => match out with
          | .ret _ => overK K l tm L ds
          | .pan v => K (.pan v) tm L ds) L 0 (.loop .ready none tm ps asg body)
        | _, _ => False
      | _ => False
    | .exit id => K (.exit id) tm L ds
    | .ret => K .ret tm L ds
    | .scope body => vc E rt n body tm L ds fun e tm L ds => match e with
      | .goto _ => False
      | e => K e tm L ds
    | .goto l => K (.goto l) tm L ds
    | c => CodeV E.P rt c tm L ds K) := rfl
theorem ev_zero {E : Env} : (∀ rt all l tm L ds K, ¬ evOps E rt 0 all l tm L ds K) ∧ (∀ rt all its i tm L ds K, ¬ evAny E rt 0 all its i tm L ds K) ∧ (∀ rt all its i tag acc tm L ds K, ¬ evRecs E rt 0 all its i tag acc tm L ds K) ∧
    (∀ g args L K, ¬ evCall E 0 g args L K) ∧ (∀ t args L K, ¬ evYield E 0 t args L K) ∧ ∀ rt c tm L ds K, ¬ vc E rt 0 c tm L ds K :=
  ⟨fun _ _ _ _ _ _ _ h => h, fun _ _ _ _ _ _ _ _ h => h, fun _ _ _ _ _ _ _ _ _ _ h => h, fun _ _ _ _ h => h, fun _ _ _ _ h => h, fun _ _ _ _ _ _ h => h⟩

end Go.Vx
