/- The abstract values and memory of a symbolic run, and what they say of the model's own values and worlds. What is known of the package-level variables: tables of numbers, by their blocks: the kinds of one row's cells, all numbers. Printed by a program. When a world holds the abstract memory; what allocation, change, freezing and a call do to that. Types by a table; one operation carried out on abstract values: what it gives. Equality of abstract values; operators. One operation on abstract values, and that the model's operation does what it says. -/
import Derived.RangeFuncIn
import Derived.Below
import Derived.Laws.CopyRow
import Derived.Laws.Tables
import Derived.Laws.World
import Derived.KernelRfl
import Derived.ChangeKeysEq
import Derived.Laws.Strings
set_option linter.unusedSimpArgs false
set_option linter.unusedVariables false
/- The abstract values and memory of a symbolic run, and what they say of the model's own values and worlds. -/
namespace Go.Vx
open Go Go.RowKit

inductive Sh where
  | int (k : IntKind) | bool | str

inductive V where
  | bool (b : Bool)
  | int (k : IntKind) (n : Int)
  | str (l : List UInt8)
  | nilPtr | nilSl | nilMap | nilFunc | nilIface
  | ptr (t i sub : Nat)
  | sl (t sz off len cap : Nat)
  | slf (t esz off len cap : Nat)
  | ro (sz len : Nat) (f : Nat → List V)
  | ep (sz len : Nat) (f : Nat → List V) (i sub : Nat)
  | fn (f : Fn) (caps : List V)
  | iface (t : Nat) (v : V)
  | agg (l : List V)
  | tup (l : List V)
  | map (t : Nat)
  | yld (t : Nat)
  | sp (t sz off len : Nat)
  | glob (g : Nat)
  | any

/-- One cell's values. -/
def V.one : V → Bool
  | .agg _ | .tup _ | .any => false
  | _ => true

inductive Blk where
  | dead
  | fix (e : Nat) (cs : List V)
  | arr (e : Nat) (sh : List Sh) (gi : Nat → Nat → Int) (gb : Nat → Nat → Bool) (gs : Nat → Nat → List UInt8)
  | map (ag : Bool) (ks : List IntKind) (vk : Sh) (m : List (List Int × Int))
  | miter (mt : Nat) (seen : List Nat) (n : Nat)
  | siter (l : List UInt8) (pos : Nat)
  | loop (st : LoopState) (pend : Option Code) (tm : List V) (ps : Array Nat) (asg body : Code)

def Blk.live : Blk → Bool
  | .dead => false
  | _ => true

def shV : List Sh → (Nat → Int) → (Nat → Bool) → (Nat → List UInt8) → Nat → List V
  | [], _, _, _, _ => []
  | .int k :: s, gi, gb, gs, c => .int k (gi c) :: shV s gi gb gs (c + 1)
  | .bool :: s, gi, gb, gs, c => .bool (gb c) :: shV s gi gb gs (c + 1)
  | .str :: s, gi, gb, gs, c => .str (gs c) :: shV s gi gb gs (c + 1)

/-- A tag's place: block, cell offset of its first element, cells an element, known elements, elements that the block has room for. -/
structure TE where
  b : Nat
  o : Nat
  sz : Nat
  n : Nat
  m : Nat

abbrev Imm := Nat → Option Obj

mutual
inductive Rel : List (Option TE) → Imm → V → Value → Prop
  | bool {ρ : List (Option TE)} {I : Imm} (b : Bool) : Rel ρ I (.bool b) (.bool b)
  | int {ρ : List (Option TE)} {I : Imm} (k : IntKind) (n : Int) : Rel ρ I (.int k n) (.int k n)
  | str {ρ : List (Option TE)} {I : Imm} (s : ByteArray) (l : List UInt8) (h : s.data.toList = l) : Rel ρ I (.str l) (.string s)
  | nilPtr {ρ : List (Option TE)} {I : Imm} : Rel ρ I .nilPtr (.pointer none)
  | nilSl {ρ : List (Option TE)} {I : Imm} : Rel ρ I .nilSl (.slice none 0 0)
  | nilMap {ρ : List (Option TE)} {I : Imm} : Rel ρ I .nilMap (.map none)
  | nilFunc {ρ : List (Option TE)} {I : Imm} : Rel ρ I .nilFunc .nilFunc
  | nilIface {ρ : List (Option TE)} {I : Imm} : Rel ρ I .nilIface .nilIface
  | ptr {ρ : List (Option TE)} {I : Imm} (t i sub : Nat) (te : TE) (h : ρ[t]? = some (some te)) (hi : i < te.n) : Rel ρ I (.ptr t i sub) (.pointer (some ⟨te.b, te.o + i * te.sz + sub, none⟩))
  | sl {ρ : List (Option TE)} {I : Imm} (t sz off len cap c : Nat) (te : TE) (o : Nat) (h : ρ[t]? = some (some te)) (hz : te.sz = sz) (hl : off + len ≤ te.n) (hlc : len ≤ cap) (hcc : cap ≤ c) (hc : off + c ≤ te.m) (ho : c ≠ 0 → o = te.o + off * te.sz) :
      Rel ρ I (.sl t sz off len cap) (.slice (some ⟨te.b, o, none⟩) len c)
  | slNil {ρ : List (Option TE)} {I : Imm} (t sz off : Nat) : Rel ρ I (.sl t sz off 0 0) (.slice none 0 0)
  | slf {ρ : List (Option TE)} {I : Imm} (t esz off len cap : Nat) (te : TE) (o : Nat) (h : ρ[t]? = some (some te)) (hn : te.n = 1) (hlc : len ≤ cap) (hc : off + cap * esz ≤ te.sz) (ho : cap ≠ 0 → o = te.o + off) :
      Rel ρ I (.slf t esz off len cap) (.slice (some ⟨te.b, o, none⟩) len cap)
  | roNil {ρ : List (Option TE)} {I : Imm} (sz : Nat) (f : Nat → List V) : Rel ρ I (.ro sz 0 f) (.slice none 0 0)
  | ro {ρ : List (Option TE)} {I : Imm} (sz len : Nat) (f : Nat → List V) (b off cap : Nat) (arr : Array Value) (el : TypeId) (fz : Nat × Nat)
      (hI : I b = some (.cells arr el fz)) (hc : len ≤ cap)
      (hs : ∀ i, i < len → (f i).length = sz) (hr : ∀ i, i < len → Rels [] I (f i) ((arr.toList.drop (off + i * sz)).take sz)) :
      Rel ρ I (.ro sz len f) (.slice (some ⟨b, off, none⟩) len cap)
  | ep {ρ : List (Option TE)} {I : Imm} (sz len : Nat) (f : Nat → List V) (i sub : Nat) (b off : Nat) (arr : Array Value) (el : TypeId) (fz : Nat × Nat)
      (hI : I b = some (.cells arr el fz)) (hi : i < len)
      (hs : ∀ i, i < len → (f i).length = sz) (hr : ∀ i, i < len → Rels [] I (f i) ((arr.toList.drop (off + i * sz)).take sz)) :
      Rel ρ I (.ep sz len f i sub) (.pointer (some ⟨b, off + i * sz + sub, none⟩))
  | fn {ρ : List (Option TE)} {I : Imm} (f : Fn) (l : List V) (xs : Array Value) (h : Rels ρ I l xs.toList) : Rel ρ I (.fn f l) (.func f #[] xs)
  | iface {ρ : List (Option TE)} {I : Imm} (t : Nat) (v : V) (x : Value) (h : Rel ρ I v x) : Rel ρ I (.iface t v) (.iface t x)
  | agg {ρ : List (Option TE)} {I : Imm} (l : List V) (xs : Array Value) (h : Rels ρ I l xs.toList) : Rel ρ I (.agg l) (.agg xs)
  | tup {ρ : List (Option TE)} {I : Imm} (l : List V) (xs : Array Value) (h : Rels ρ I l xs.toList) : Rel ρ I (.tup l) (.tuple xs)
  | map {ρ : List (Option TE)} {I : Imm} (t : Nat) (te : TE) (h : ρ[t]? = some (some te)) : Rel ρ I (.map t) (.map (some te.b))
  | yld {ρ : List (Option TE)} {I : Imm} (t : Nat) (te : TE) (h : ρ[t]? = some (some te)) : Rel ρ I (.yld t) (.func (.yield te.b) #[] #[])
  | any {ρ : List (Option TE)} {I : Imm} (x : Value) : Rel ρ I .any x
  | sp {ρ : List (Option TE)} {I : Imm} (t sz off len : Nat) (te : TE) (h : ρ[t]? = some (some te)) (hz : te.sz = sz) (hl : off + len ≤ te.n) (h0 : 0 < len) : Rel ρ I (.sp t sz off len) (.pointer (some ⟨te.b, te.o + off * te.sz, none⟩))
  | glob {ρ : List (Option TE)} {I : Imm} (g : Nat) : Rel ρ I (.glob g) (.pointer (some ⟨g, 0, none⟩))
inductive Rels : List (Option TE) → Imm → List V → List Value → Prop
  | nil {ρ : List (Option TE)} {I : Imm} : Rels ρ I [] []
  | cons {ρ : List (Option TE)} {I : Imm} (v : V) (l : List V) (x : Value) (xs : List Value) (h : Rel ρ I v x) (hs : Rels ρ I l xs) : Rels ρ I (v :: l) (x :: xs)
end

def Imm.le (I I' : Imm) : Prop := ∀ b o, I b = some o → I' b = some o
def TEs.le (ρ ρ' : List (Option TE)) : Prop := ∀ (t : Nat) (te : TE), ρ[t]? = some (some te) → ρ'[t]? = some te

theorem Imm.le_refl (I : Imm) : Imm.le I I := fun _ _ h => h
theorem Imm.le_trans {I J K : Imm} (h : Imm.le I J) (h' : Imm.le J K) : Imm.le I K := fun b o hb => h' b o (h b o hb)
theorem TEs.le_refl (ρ : List (Option TE)) : TEs.le ρ ρ := fun _ _ h => h
theorem TEs.le_trans {ρ σ τ : List (Option TE)} (h : TEs.le ρ σ) (h' : TEs.le σ τ) : TEs.le ρ τ := fun t te ht => h' t te (h t te ht)
theorem TEs.le_append (ρ x : List (Option TE)) : TEs.le ρ (ρ ++ x) := fun t te h => by
  have := (List.getElem?_eq_some_iff.1 h).1
  rw [List.getElem?_append_left this]; exact h

theorem TEs.nil_le (ρ : List (Option TE)) : TEs.le [] ρ := fun t te h => by simp at h
theorem Rel.mono {ρ ρ' : List (Option TE)} {I I' : Imm} (hρ : TEs.le ρ ρ') (hI : Imm.le I I') {v : V} {x : Value} (h : Rel ρ I v x) : Rel ρ' I' v x := by
  refine @Rel.rec (fun ρ I v x _ => ∀ ρ' I', TEs.le ρ ρ' → Imm.le I I' → Rel ρ' I' v x) (fun ρ I l xs _ => ∀ ρ' I', TEs.le ρ ρ' → Imm.le I I' → Rels ρ' I' l xs) ?_ ?_ ?_ ?_ ?_ ?_ ?_ ?_ ?_ ?_ ?_ ?_ ?_ ?_ ?_ ?_ ?_ ?_ ?_ ?_ ?_ ?_ ?_ ?_ ?_ ?_ ρ I v x h ρ' I' hρ hI
  case _ => intro ρ I b ρ' I' hρ hI; exact .bool b
  case _ => intro ρ I k n ρ' I' hρ hI; exact .int k n
  case _ => intro ρ I s l h ρ' I' hρ hI; exact .str s l h
  case _ => intro ρ I ρ' I' hρ hI; exact .nilPtr
  case _ => intro ρ I ρ' I' hρ hI; exact .nilSl
  case _ => intro ρ I ρ' I' hρ hI; exact .nilMap
  case _ => intro ρ I ρ' I' hρ hI; exact .nilFunc
  case _ => intro ρ I ρ' I' hρ hI; exact .nilIface
  case _ => intro ρ I t i sub te h hi ρ' I' hρ hI; exact .ptr t i sub te (hρ _ _ h) hi
  case _ => intro ρ I t sz off len cap c te o h hz hl hlc hcc hc ho ρ' I' hρ hI; exact .sl t sz off len cap c te o (hρ _ _ h) hz hl hlc hcc hc ho
  case _ => intro ρ I t sz off ρ' I' hρ hI; exact .slNil t sz off
  case _ => intro ρ I t esz off len cap te o h hn hlc hc ho ρ' I' hρ hI; exact .slf t esz off len cap te o (hρ _ _ h) hn hlc hc ho
  case _ => intro ρ I sz f ρ' I' hρ hI; exact .roNil sz f
  case _ => intro ρ I sz len f b off cap arr el fz hb hc hs _ ih ρ' I' hρ hI; exact .ro sz len f b off cap arr el fz (hI _ _ hb) hc hs (fun i hi => ih i hi [] I' (TEs.le_refl _) hI)
  case _ => intro ρ I sz len f i sub b off arr el fz hb hi hs _ ih ρ' I' hρ hI; exact .ep sz len f i sub b off arr el fz (hI _ _ hb) hi hs (fun i hi => ih i hi [] I' (TEs.le_refl _) hI)
  case _ => intro ρ I f l xs _ ih ρ' I' hρ hI; exact .fn f l xs (ih ρ' I' hρ hI)
  case _ => intro ρ I t v x _ ih ρ' I' hρ hI; exact .iface t v x (ih ρ' I' hρ hI)
  case _ => intro ρ I l xs _ ih ρ' I' hρ hI; exact .agg l xs (ih ρ' I' hρ hI)
  case _ => intro ρ I l xs _ ih ρ' I' hρ hI; exact .tup l xs (ih ρ' I' hρ hI)
  case _ => intro ρ I t te h ρ' I' hρ hI; exact .map t te (hρ _ _ h)
  case _ => intro ρ I t te h ρ' I' hρ hI; exact .yld t te (hρ _ _ h)
  case _ => intro ρ I x ρ' I' hρ hI; exact .any x
  case _ => intro ρ I t sz off len te h hz hl h0 ρ' I' hρ hI; exact .sp t sz off len te (hρ _ _ h) hz hl h0
  case _ => intro ρ I g ρ' I' hρ hI; exact .glob g
  case _ => intro ρ I ρ' I' hρ hI; exact .nil
  case _ => intro ρ I v l x xs _ _ ih ihs ρ' I' hρ hI; exact .cons v l x xs (ih ρ' I' hρ hI) (ihs ρ' I' hρ hI)

end Go.Vx
/- What is known of the package-level variables: tables of numbers, by their blocks: the kinds of one row's cells, all numbers. Printed by a program. -/
namespace Go.Vx
open Go Go.RowKit
def globs : List (Nat × List IntKind × List Int) := [(2, [.u64], [1, 10, 100, 1000, 10000, 100000, 1000000, 10000000, 100000000, 1000000000, 10000000000, 100000000000, 1000000000000, 10000000000000, 100000000000000, 1000000000000000, 10000000000000000, 100000000000000000, 1000000000000000000, 10000000000000000000])]
def rowG (zs : List Int) : List IntKind → Nat → List V
  | [], _ => []
  | k :: ks, j => .int k (zs.getD j 0) :: rowG zs ks (j + 1)
def rowX (zs : List Int) : List IntKind → Nat → List Value
  | [], _ => []
  | k :: ks, j => .int k (zs.getD j 0) :: rowX zs ks (j + 1)
def cellsX (ks : List IntKind) (zs : List Int) : List Value := (List.range (zs.length / ks.length)).flatMap fun i => rowX zs ks (i * ks.length)
def GlobOk (I : Imm) : Prop := ∀ p ∈ globs, ∃ el fz, I p.1 = some (.cells (cellsX p.2.1 p.2.2).toArray el fz)
theorem GlobOk.mono {I I' : Imm} (h : Imm.le I I') (hg : GlobOk I) : GlobOk I' := fun p hp => by
  obtain ⟨el, fz, h1⟩ := hg p hp
  exact ⟨el, fz, h _ _ h1⟩
end Go.Vx
/- When a world holds the abstract memory; what allocation, change, freezing and a call do to that. -/
namespace Go.Vx
open Go Go.RowKit

section lists
variable {ρ : List (Option TE)} {I : Imm}
theorem Rels.length {l : List V} {xs : List Value} (h : Rels ρ I l xs) : l.length = xs.length := by
  induction l generalizing xs with
  | nil => cases h; rfl
  | cons v l ih => cases h with | cons _ _ x xs h hs => simp [ih hs]
theorem Rels.get {l : List V} {xs : List Value} (h : Rels ρ I l xs) (i : Nat) {v : V} (hv : l[i]? = some v) : ∃ x, xs[i]? = some x ∧ Rel ρ I v x := by
  induction l generalizing xs i with
  | nil => simp at hv
  | cons u l ih =>
    cases h with
    | cons _ _ x xs h hs =>
      cases i with
      | zero => simp at hv; subst hv; exact ⟨x, by simp, h⟩
      | succ i => simp at hv; obtain ⟨y, hy, hr⟩ := ih hs i hv; exact ⟨y, by simpa using hy, hr⟩
theorem Rels.of_get {l : List V} {xs : List Value} (hl : l.length = xs.length) (h : ∀ (i : Nat) v x, l[i]? = some v → xs[i]? = some x → Rel ρ I v x) : Rels ρ I l xs := by
  induction l generalizing xs with
  | nil => cases xs with | nil => exact .nil | cons => simp at hl
  | cons v l ih =>
    cases xs with
    | nil => simp at hl
    | cons x xs =>
      refine .cons v l x xs (h 0 v x (by simp) (by simp)) (ih (by simpa using hl) fun i u y hu hy => h (i + 1) u y (by simpa using hu) (by simpa using hy))
theorem Rels.drop {l : List V} {xs : List Value} (h : Rels ρ I l xs) (n : Nat) : Rels ρ I (l.drop n) (xs.drop n) := by
  induction n generalizing l xs with
  | zero => simpa using h
  | succ n ih => cases h with | nil => simp; exact .nil | cons v l x xs h hs => simpa using ih hs
theorem Rels.take {l : List V} {xs : List Value} (h : Rels ρ I l xs) (n : Nat) : Rels ρ I (l.take n) (xs.take n) := by
  induction n generalizing l xs with
  | zero => simp; exact .nil
  | succ n ih => cases h with | nil => simp; exact .nil | cons v l x xs h hs => simpa using .cons _ _ _ _ h (ih hs)
theorem Rels.append {l l' : List V} {xs xs' : List Value} (h : Rels ρ I l xs) (h' : Rels ρ I l' xs') : Rels ρ I (l ++ l') (xs ++ xs') := by
  induction l generalizing xs with
  | nil => cases h; simpa using h'
  | cons v l ih => cases h with | cons _ _ x xs h hs => simpa using .cons _ _ _ _ h (ih hs)
theorem Rels.set {l : List V} {xs : List Value} (h : Rels ρ I l xs) (n : Nat) {v : V} {x : Value} (hv : Rel ρ I v x) : Rels ρ I (l.set n v) (xs.set n x) := by
  induction n generalizing l xs with
  | zero => cases h with | nil => simp; exact .nil | cons u l y xs h hs => simpa using .cons _ _ _ _ hv hs
  | succ n ih => cases h with | nil => simp; exact .nil | cons u l y xs h hs => simpa using .cons _ _ _ _ h (ih hs)
theorem Rels.mono {ρ' : List (Option TE)} {I' : Imm} (hρ : TEs.le ρ ρ') (hI : Imm.le I I') {l : List V} {xs : List Value} (h : Rels ρ I l xs) : Rels ρ' I' l xs := by
  induction l generalizing xs with
  | nil => cases h; exact .nil
  | cons v l ih => cases h with | cons _ _ x xs h hs => exact .cons _ _ _ _ (h.mono hρ hI) (ih hs)
theorem Rel.one {v : V} {x : Value} (h : Rel ρ I v x) (hv : v.one = true) : x.oneCell' = true := by cases h <;> first | rfl | simp [V.one] at hv
end lists

def cellsOf : Blk → Nat → List V
  | .fix _ cs, _ => cs
  | .arr _ sh gi gb gs, i => shV sh (gi i) (gb i) (gs i) 0
  | _, _ => []

def CellsRel (ρ : List (Option TE)) (I : Imm) (te : TE) (f : Nat → List V) (o : Obj) : Prop :=
  ∃ arr el, o = .cells arr el (0, 0) ∧ te.n ≤ te.m ∧ te.o + te.m * te.sz ≤ arr.size ∧
    ∀ i, i < te.n → (f i).length = te.sz ∧ Rels ρ I (f i) ((arr.toList.drop (te.o + i * te.sz)).take te.sz)

/-- A key's cells, its value; an entry's value. -/
def keyC : List IntKind → List Int → List Value
  | k :: ks, n :: ns => .int k n :: keyC ks ns
  | _, _ => []
def keyX (ag : Bool) (ks : List IntKind) (k : List Int) : Value :=
  match ag with
  | true => .agg (keyC ks k).toArray
  | false => match keyC ks k with
    | [x] => x
    | _ => .tuple #[]
def valX : Sh → Int → Value
  | .int k, n => .int k n
  | .bool, n => .bool (decide (n ≠ 0))
  | .str, _ => .tuple #[]
/-- A map's entries, in the order in which they came: keys of integers. -/
def EntRel (ag : Bool) (ks : List IntKind) (vk : Sh) : Nat → List (List Int × Int) → List MapEntry → Prop
  | _, [], [] => True
  | i, (k, v) :: m, e :: es => k.length = ks.length ∧ e.key = keyX ag ks k ∧ e.val = valX vk v ∧ e.born = i ∧ EntRel ag ks vk (i + 1) m es
  | _, _, _ => False

/-- The whole row, and its elements' type. -/
def ShapeIs (e : Nat) (te : TE) (o : Obj) : Prop := te.o = 0 ∧ ∃ arr, o = .cells arr e (0, 0) ∧ arr.size = te.sz

def BRel (ρ : List (Option TE)) (I : Imm) (te : TE) (b : Blk) (o : Obj) : Prop :=
  match b with
  | .dead => True
  | .fix e _ => CellsRel ρ I te (cellsOf b) o ∧ te.n = 1 ∧ ShapeIs e te o
  | .arr e _ _ _ _ => CellsRel ρ I te (cellsOf b) o ∧ ∃ arr, o = .cells arr e (0, 0)
  | .map ag ks vk m => ∃ es, o = .map es es.size ∧ EntRel ag ks vk 0 m es.toList
  | .miter mt seen n => te.o = 0 ∧ ∃ te', ρ[mt]? = some (some te') ∧ o = .mapIter (some te'.b) n seen.toArray n
  | .siter l pos => te.o = 0 ∧ ∃ s : ByteArray, s.data.toList = l ∧ o = .stringIter s pos
  | .loop st pend tm ps asg body => ∃ fnId tmps td, o = .loop { state := st, pending := pend, fn := fnId, tmps, params := ps, assign := asg, body, defers := td } ∧ Rels ρ I tm tmps.toList

theorem CellsRel.mono {ρ ρ' : List (Option TE)} {I I' : Imm} (hρ : TEs.le ρ ρ') (hI : Imm.le I I') {te : TE} {f : Nat → List V} {o : Obj} (h : CellsRel ρ I te f o) : CellsRel ρ' I' te f o := by
  obtain ⟨arr, el, h1, h2, h3, h4⟩ := h
  exact ⟨arr, el, h1, h2, h3, fun i hi => ⟨(h4 i hi).1, (h4 i hi).2.mono hρ hI⟩⟩
theorem BRel.mono {ρ ρ' : List (Option TE)} {I I' : Imm} (hρ : TEs.le ρ ρ') (hI : Imm.le I I') {te : TE} {b : Blk} {o : Obj} (h : BRel ρ I te b o) : BRel ρ' I' te b o := by
  cases b with
  | dead => trivial
  | fix e cs => exact ⟨CellsRel.mono hρ hI h.1, h.2⟩
  | arr e sh gi gb gs => exact ⟨CellsRel.mono hρ hI h.1, h.2⟩
  | map ag ks vk m => exact h
  | miter mt seen n => obtain ⟨h0, te', h1, h2⟩ := h; exact ⟨h0, te', hρ _ _ h1, h2⟩
  | siter l pos => exact h
  | loop st pend tm ps asg body => obtain ⟨fnId, tmps, td, h1, h2⟩ := h; exact ⟨fnId, tmps, td, h1, h2.mono hρ hI⟩

def Own (ρ : List (Option TE)) (L : List Blk) (b : Nat) : Prop := ∃ (t : Nat) (te : TE) (blk : Blk), L[t]? = some blk ∧ blk.live = true ∧ ρ[t]? = some (some te) ∧ te.b = b

structure Mod (ρ : List (Option TE)) (I : Imm) (L : List Blk) (w : World) : Prop where
  len : ρ.length = L.length
  own : ∀ (t : Nat) blk te, L[t]? = some blk → blk.live = true → ρ[t]? = some (some te) → ∃ o, w.heap[te.b]? = some o ∧ BRel ρ I te blk o
  inj : ∀ (t t' : Nat) blk blk' te te', L[t]? = some blk → L[t']? = some blk' → blk.live = true → blk'.live = true → ρ[t]? = some (some te) → ρ[t']? = some (some te') → te.b = te'.b → t = t'
  imm : ∀ b o, I b = some o → w.heap[b]? = some o
  sep : ∀ b, Own ρ L b → I b = none
  glob : GlobOk I

structure Stp (ρ : List (Option TE)) (I : Imm) (L : List Blk) (w : World) (ρ' : List (Option TE)) (I' : Imm) (L' : List Blk) (w' : World) : Prop where
  rho : TEs.le ρ ρ'
  rlen : ρ.length ≤ ρ'.length
  im : Imm.le I I'
  imn : ∀ b o, I' b = some o → I b = some o ∨ Own ρ L b ∨ w.heap.size ≤ b
  own : ∀ b, Own ρ' L' b → Own ρ L b ∨ w.heap.size ≤ b
  os : w'.os = w.os
  tape : w'.tape = w.tape
  output : w'.output = w.output
  size : w.heap.size ≤ w'.heap.size
  frame : ∀ b, b < w.heap.size → ¬ Own ρ L b → w'.heap[b]? = w.heap[b]?

theorem Stp.refl (ρ I L w) : Stp ρ I L w ρ I L w := ⟨TEs.le_refl _, Nat.le_refl _, Imm.le_refl _, fun _ _ h => .inl h, fun _ h => .inl h, rfl, rfl, rfl, Nat.le_refl _, fun _ _ _ => rfl⟩
theorem Stp.trans {ρ I L w ρ1 I1 L1 w1 ρ2 I2 L2 w2} (h : Stp ρ I L w ρ1 I1 L1 w1) (k : Stp ρ1 I1 L1 w1 ρ2 I2 L2 w2) : Stp ρ I L w ρ2 I2 L2 w2 where
  rho := TEs.le_trans h.rho k.rho
  rlen := Nat.le_trans h.rlen k.rlen
  im := Imm.le_trans h.im k.im
  imn b o hb := by
    rcases k.imn b o hb with h1 | h1 | h1
    · exact h.imn b o h1
    · rcases h.own b h1 with h2 | h2
      · exact .inr (.inl h2)
      · exact .inr (.inr h2)
    · exact .inr (.inr (Nat.le_trans h.size h1))
  own b hb := by
    rcases k.own b hb with h1 | h1
    · exact h.own b h1
    · exact .inr (Nat.le_trans h.size h1)
  os := k.os.trans h.os
  tape := k.tape.trans h.tape
  output := k.output.trans h.output
  size := Nat.le_trans h.size k.size
  frame b hb ho := by
    have h1 : ¬ Own ρ1 L1 b := fun hc => by
      rcases h.own b hc with h2 | h2
      · exact ho h2
      · omega
    exact (k.frame b (Nat.lt_of_lt_of_le hb h.size) h1).trans (h.frame b hb ho)

theorem Mod.blk_lt {ρ I L w} (h : Mod ρ I L w) {t : Nat} {blk te} (hL : L[t]? = some blk) (hl : blk.live = true) (hρ : ρ[t]? = some (some te)) : te.b < w.heap.size := by
  obtain ⟨o, ho, _⟩ := h.own t blk te hL hl hρ
  exact (Array.getElem?_eq_some_iff.1 ho).1

theorem Mod.alloc {ρ I L w} (h : Mod ρ I L w) (te : TE) (blk : Blk) (o : Obj) (hb : te.b = w.heap.size) (ho : BRel (ρ ++ [some te]) I te blk o) :
    Mod (ρ ++ [some te]) I (L ++ [blk]) (w.alloc o) ∧ Stp ρ I L w (ρ ++ [some te]) I (L ++ [blk]) (w.alloc o) := by
  have hle := TEs.le_append ρ [some te]
  have hsz : (w.alloc o).heap.size = w.heap.size + 1 := by simp
  have hold : ∀ k, k < w.heap.size → (w.alloc o).heap[k]? = w.heap[k]? := fun k hk => Below.heap_alloc w o k hk
  have hnew : (w.alloc o).heap[w.heap.size]? = some o := by show (w.heap.push o)[w.heap.size]? = some o; simp
  -- a tag of the longer lists
  have split : ∀ (t : Nat) (b : Blk) (e : TE), (L ++ [blk])[t]? = some b → (ρ ++ [some te])[t]? = some e → (L[t]? = some b ∧ ρ[t]? = some (some e)) ∨ (t = L.length ∧ b = blk ∧ e = te) := by
    intro t b e h1 h2
    by_cases ht : t < L.length
    · rw [List.getElem?_append_left ht] at h1
      rw [List.getElem?_append_left (by rw [h.len]; exact ht)] at h2
      exact .inl ⟨h1, h2⟩
    · have h3 := (List.getElem?_eq_some_iff.1 h1).1
      simp at h3
      have : t = L.length := by omega
      subst this
      rw [List.getElem?_append_right (Nat.le_refl _)] at h1
      rw [List.getElem?_append_right (by rw [h.len]; exact Nat.le_refl _)] at h2
      simp [h.len] at h1 h2
      exact .inr ⟨rfl, h1.symm, h2.symm⟩
  have hown : ∀ b, Own (ρ ++ [some te]) (L ++ [blk]) b → Own ρ L b ∨ w.heap.size ≤ b := by
    rintro b ⟨t, e, bl, h1, h2, h3, h4⟩
    rcases split t bl e h1 h3 with ⟨h5, h6⟩ | ⟨_, h5, h6⟩
    · exact .inl ⟨t, e, bl, h5, h2, h6, h4⟩
    · subst h6; exact .inr (by omega)
  refine ⟨⟨by simp [h.len], ?_, ?_, ?_, ?_, h.glob⟩, ⟨hle, by simp, Imm.le_refl _, fun _ _ h => .inl h, hown, rfl, rfl, rfl, by omega, fun b hb _ => hold b hb⟩⟩
  · intro t b e h1 h2 h3
    rcases split t b e h1 h3 with ⟨h4, h5⟩ | ⟨_, h4, h5⟩
    · obtain ⟨o', h6, h7⟩ := h.own t b e h4 h2 h5
      exact ⟨o', (hold _ (Array.getElem?_eq_some_iff.1 h6).1).trans h6, h7.mono hle (Imm.le_refl _)⟩
    · subst h4; subst h5; exact ⟨o, by rw [hb]; exact hnew, ho⟩
  · intro t t' b b' e e' h1 h1' h2 h2' h3 h3' he
    rcases split t b e h1 h3 with ⟨h4, h5⟩ | ⟨h4, h5, h6⟩ <;> rcases split t' b' e' h1' h3' with ⟨h4', h5'⟩ | ⟨h4', h5', h6'⟩
    · exact h.inj t t' b b' e e' h4 h4' h2 h2' h5 h5' he
    · have := h.blk_lt h4 h2 h5; subst h6'; omega
    · have := h.blk_lt h4' h2' h5'; subst h6; omega
    · omega
  · intro b o' hI
    have := h.imm b o' hI
    exact (hold b (Array.getElem?_eq_some_iff.1 this).1).trans this
  · intro b hb'
    rcases hown b hb' with h1 | h1
    · exact h.sep b h1
    · cases hI : I b with
      | none => rfl
      | some o' => have := (Array.getElem?_eq_some_iff.1 (h.imm b o' hI)).1; omega

/-- One block is changed. -/
theorem Mod.update {ρ I L w w'} (h : Mod ρ I L w) {t : Nat} {blk blk' : Blk} {te : TE} {o' : Obj} (hL : L[t]? = some blk) (hl : blk.live = true) (hρ : ρ[t]? = some (some te))
    (hw : w'.heap[te.b]? = some o') (hr : BRel ρ I te blk' o') (hoth : ∀ b, b ≠ te.b → w'.heap[b]? = w.heap[b]?) (hsz : w'.heap.size = w.heap.size)
    (hos : w'.os = w.os) (htp : w'.tape = w.tape) (hout : w'.output = w.output) :
    Mod ρ I (L.set t blk') w' ∧ Stp ρ I L w ρ I (L.set t blk') w' := by
  have htL : t < L.length := (List.getElem?_eq_some_iff.1 hL).1
  have old : ∀ (s : Nat) b, (L.set t blk')[s]? = some b → b.live = true → ∃ b0, L[s]? = some b0 ∧ b0.live = true ∧ (s ≠ t → b0 = b) := by
    intro s b h1 h2
    by_cases hs : s = t
    · subst hs; exact ⟨blk, hL, hl, fun h => absurd rfl h⟩
    · rw [List.getElem?_set_ne (Ne.symm hs)] at h1; exact ⟨b, h1, h2, fun _ => rfl⟩
  have hown : ∀ b, Own ρ (L.set t blk') b → Own ρ L b := by
    rintro b ⟨s, e, bl, h1, h2, h3, h4⟩
    obtain ⟨b0, h5, h6, _⟩ := old s bl h1 h2
    exact ⟨s, e, b0, h5, h6, h3, h4⟩
  refine ⟨⟨by simpa using h.len, ?_, ?_, ?_, ?_, h.glob⟩, ⟨TEs.le_refl _, Nat.le_refl _, Imm.le_refl _, fun _ _ h => .inl h, fun b hb => .inl (hown b hb), hos, htp, hout, by omega, ?_⟩⟩
  · intro s b e h1 h2 h3
    by_cases hs : s = t
    · subst hs
      rw [List.getElem?_set_self htL] at h1
      cases h1
      rw [hρ] at h3; cases h3
      exact ⟨o', hw, hr⟩
    · rw [List.getElem?_set_ne (Ne.symm hs)] at h1
      obtain ⟨o, h4, h5⟩ := h.own s b e h1 h2 h3
      refine ⟨o, (hoth _ fun he => hs (h.inj s t b blk e te h1 hL h2 hl h3 hρ he)).trans h4, h5⟩
  · intro s s' b b' e e' h1 h1' h2 h2' h3 h3' he
    obtain ⟨c, h4, h5, _⟩ := old s b h1 h2
    obtain ⟨c', h4', h5', _⟩ := old s' b' h1' h2'
    exact h.inj s s' c c' e e' h4 h4' h5 h5' h3 h3' he
  · intro b o hI
    have hne : b ≠ te.b := fun he => by have := h.sep b ⟨t, te, blk, hL, hl, hρ, he.symm⟩; rw [this] at hI; cases hI
    exact (hoth b hne).trans (h.imm b o hI)
  · exact fun b hb => h.sep b (hown b hb)
  · exact fun b _ hb => hoth b fun he => hb ⟨t, te, blk, hL, hl, hρ, he.symm⟩

/-- A call that leaves all blocks as they were, or a draw. -/
theorem Mod.below {ρ I L w w'} (h : Mod ρ I L w) (hb : Below w.heap.size w w') : Mod ρ I L w' ∧ Stp ρ I L w ρ I L w' := by
  refine ⟨⟨h.len, ?_, h.inj, ?_, h.sep, h.glob⟩, ⟨TEs.le_refl _, Nat.le_refl _, Imm.le_refl _, fun _ _ h => .inl h, fun _ hb => .inl hb, hb.os, hb.tape, hb.output, hb.size, fun b hlt _ => hb.block b hlt⟩⟩
  · intro t b e h1 h2 h3
    obtain ⟨o, h4, h5⟩ := h.own t b e h1 h2 h3
    exact ⟨o, (hb.block _ (Array.getElem?_eq_some_iff.1 h4).1).trans h4, h5⟩
  · intro b o hI
    have := h.imm b o hI
    exact (hb.block _ (Array.getElem?_eq_some_iff.1 this).1).trans this

/-- Blocks that nobody will write any more: some tags die, and what they held is known for good. -/
theorem Mod.freeze {ρ I L w} (h : Mod ρ I L w) (L' : List Blk) (I' : Imm) (hlen : L'.length = L.length)
    (hL : ∀ (t : Nat) blk, L'[t]? = some blk → blk.live = true → L[t]? = some blk)
    (hI : Imm.le I I') (hI' : ∀ b o, I' b = some o → w.heap[b]? = some o ∧ ¬ Own ρ L' b) (hn : ∀ b o, I' b = some o → I b = some o ∨ Own ρ L b) :
    Mod ρ I' L' w ∧ Stp ρ I L w ρ I' L' w := by
  have hown : ∀ b, Own ρ L' b → Own ρ L b := by
    rintro b ⟨s, e, bl, h1, h2, h3, h4⟩
    exact ⟨s, e, bl, hL s bl h1 h2, h2, h3, h4⟩
  refine ⟨⟨by rw [hlen]; exact h.len, ?_, ?_, fun b o hb => (hI' b o hb).1, ?_, h.glob.mono hI⟩, ⟨TEs.le_refl _, Nat.le_refl _, hI, fun b o h => (hn b o h).imp_right .inl, fun b hb => .inl (hown b hb), rfl, rfl, rfl, Nat.le_refl _, fun _ _ _ => rfl⟩⟩
  · intro t b e h1 h2 h3
    obtain ⟨o, h4, h5⟩ := h.own t b e (hL t b h1 h2) h2 h3
    exact ⟨o, h4, h5.mono (TEs.le_refl _) hI⟩
  · intro t t' b b' e e' h1 h1' h2 h2' h3 h3' he
    exact h.inj t t' b b' e e' (hL t b h1 h2) (hL t' b' h1' h2') h2 h2' h3 h3' he
  · intro b hb
    cases hc : I' b with
    | none => rfl
    | some o => exact absurd hb (hI' b o hc).2

end Go.Vx
/- Types by a table; one operation carried out on abstract values: what it gives. -/
namespace Go.Vx
open Go Go.RowKit

inductive Ty where
  | bool | int (k : IntKind) | str | ptr (e : Nat) | slice (e : Nat) | array (n e : Nat) | struct (fs : List (Nat × Nat))
  | map (k e : Nat) | func | iface | other

structure TyI where
  ty : Ty
  size : Nat
  bytes : Nat
  zero : List V
  eq : Bool      -- '==' at this type looks at plain data alone

def nth {α : Type} : List α → Nat → Option α
  | [], _ => none
  | x :: _, 0 => some x
  | _ :: l, n + 1 => nth l n
def nthV (l : List V) (n : Nat) : V := match nth l n with
  | some v => v
  | none => .tup []
def len {α : Type} : List α → Nat
  | [] => 0
  | _ :: l => len l + 1
/-- Exactly the first n. -/
def take? {α : Type} : Nat → List α → Option (List α)
  | 0, _ => some []
  | _ + 1, [] => none
  | n + 1, x :: l => match take? n l with
    | some r => some (x :: r)
    | none => none
def drop' {α : Type} : Nat → List α → List α
  | 0, l => l
  | _ + 1, [] => []
  | n + 1, _ :: l => drop' n l
/-- l with ys from place n on; none where they go beyond its end. -/
def splice {α : Type} : List α → Nat → List α → Option (List α)
  | l, 0, [] => some l
  | [], 0, _ :: _ => none
  | _ :: l, 0, y :: ys => match splice l 0 ys with
    | some r => some (y :: r)
    | none => none
  | [], _ + 1, _ => none
  | x :: l, n + 1, ys => match splice l n ys with
    | some r => some (x :: r)
    | none => none

theorem nth_eq {α : Type} (l : List α) (n : Nat) : nth l n = l[n]? := by
  induction l generalizing n with
  | nil => simp [nth]
  | cons x l ih => cases n <;> simp [nth, ih]
theorem len_eq {α : Type} (l : List α) : len l = l.length := by induction l <;> simp [len, *]
theorem take?_eq {α : Type} {n : Nat} {l r : List α} (h : take? n l = some r) : r = l.take n ∧ r.length = n := by
  induction n generalizing l r with
  | zero => simp [take?] at h; subst h; simp
  | succ n ih =>
    cases l with
    | nil => simp [take?] at h
    | cons x l =>
      simp only [take?] at h
      split at h
      · rename_i r' hr; cases h; obtain ⟨h1, h2⟩ := ih hr; exact ⟨by simp [h1], by simp [h2]⟩
      · cases h
theorem drop'_eq {α : Type} (n : Nat) (l : List α) : drop' n l = l.drop n := by
  induction n generalizing l with
  | zero => rfl
  | succ n ih => cases l <;> simp [drop', ih]
theorem splice_eq {α : Type} {l : List α} {n : Nat} {ys r : List α} (h : splice l n ys = some r) : n + ys.length ≤ l.length ∧ r = l.take n ++ ys ++ l.drop (n + ys.length) := by
  induction l generalizing n ys r with
  | nil =>
    cases n with
    | zero => cases ys with
      | nil => simp [splice] at h; subst h; simp
      | cons => simp [splice] at h
    | succ n => simp [splice] at h
  | cons x l ih =>
    cases n with
    | zero => cases ys with
      | nil => simp [splice] at h; subst h; simp
      | cons y ys =>
        simp only [splice] at h
        split at h
        · rename_i r' hr; cases h; obtain ⟨h1, h2⟩ := ih hr; subst h2; simp at h1 ⊢; omega
        · cases h
    | succ n =>
      simp only [splice] at h
      split at h
      · rename_i r' hr; cases h; obtain ⟨h1, h2⟩ := ih hr; subst h2; simp at h1 ⊢
        rw [show n + 1 + ys.length = n + ys.length + 1 by omega]; simp; omega
      · cases h

def ofC1 : Value → V
  | .bool b => .bool b
  | .int k n => .int k n
  | .string s => .str s.data.toList
  | .pointer none => .nilPtr
  | .slice none 0 0 => .nilSl
  | .map none => .nilMap
  | .nilFunc => .nilFunc
  | .nilIface => .nilIface
  | _ => .any
def ofC : Value → V
  | .agg cs => .agg (cs.toList.map ofC1)
  | .tuple cs => .tup (cs.toList.map ofC1)
  | v => ofC1 v
theorem rel_ofC1 (ρ I) (v : Value) : Rel ρ I (ofC1 v) v := by
  unfold ofC1
  split <;> first | exact .bool _ | exact .int _ _ | exact .str _ _ rfl | exact .nilPtr | exact .nilSl | exact .nilMap | exact .nilFunc | exact .nilIface | exact .any _
theorem rels_ofC1 (ρ I) (l : List Value) : Rels ρ I (l.map ofC1) l := by
  induction l with
  | nil => exact .nil
  | cons v l ih => exact .cons _ _ _ _ (rel_ofC1 ρ I v) ih
theorem rel_ofC (ρ I) (v : Value) : Rel ρ I (ofC v) v := by
  unfold ofC
  split
  · exact .agg _ _ (rels_ofC1 ρ I _)
  · exact .tup _ _ (rels_ofC1 ρ I _)
  · exact rel_ofC1 ρ I _

def DescOk : TypeDesc → Ty → Prop
  | .bool, .bool => True
  | .int k, .int k' => k = k'
  | .string, .str => True
  | .pointer e, .ptr e' => e = e'
  | .slice e, .slice e' => e = e'
  | .array n e, .array n' e' => n = n' ∧ e = e'
  | .struct fs, .struct fs' => fs.toList.map (fun f => (f.offset, f.type)) = fs'
  | .map k e, .map k' e' => k = k' ∧ e = e'
  | .func .., .func => True
  | .interface _, .iface => True
  | _, _ => False

structure TyOk (P : Program) (t : Nat) (i : TyI) : Prop where
  mk ::
  ex : ∃ info d, P.info? t = some info ∧ P.underlying t = some d ∧ info.size = i.size ∧ info.bytes = i.bytes ∧ DescOk d i.ty ∧
    (∃ z, info.zero = some z ∧ z.cells.size = i.size ∧ ∀ ρ I, Rels ρ I i.zero z.cells.toList) ∧
    (i.eq = true → P.eqGuardType P.depth t = false ∧ (match d with | .struct fs => P.stoodInHeld t = false ∧ ∀ f ∈ fs.toList, f.name ≠ "_" | _ => True))
  one : (match i.ty with | .int _ | .bool | .str => ∀ info z, P.info? t = some info → info.zero = some z → z.oneCell' = true | _ => True)

abbrev Tab := Nat → TyI
def TOk (P : Program) (T : Tab) : Prop := ∀ t, (match (T t).ty with | .other => False | _ => True) → TyOk P t (T t)

def Ty.agg : Ty → Bool
  | .struct _ | .array _ _ => true
  | _ => false
def Ty.known : Ty → Bool
  | .other => false
  | _ => true

theorem TOk.ok {P : Program} {T : Tab} (h : TOk P T) {t : Nat} (hk : (T t).ty.known = true) : TyOk P t (T t) := h t (by cases h' : (T t).ty <;> simp [Ty.known, h'] at hk ⊢)

section run
variable {P : Program} {T : Tab} {w : World} {t : Nat}
theorem run_typeInfo {i : TypeInfo} (h : P.info? t = some i) : (typeInfo t).run P w = .ok i w := by simp [typeInfo, h]
theorem run_underlying {d : TypeDesc} (h : P.underlying t = some d) : (underlying t).run P w = .ok d w := by simp [underlying, h]
theorem run_sizeOf (hT : TOk P T) (hk : (T t).ty.known = true) : (sizeOf t).run P w = .ok (T t).size w := by
  obtain ⟨i, d, h1, h2, h3, _⟩ := (hT.ok hk).ex
  simp [sizeOf, run_typeInfo h1, h3]
theorem run_isAgg (hT : TOk P T) (hk : (T t).ty.known = true) : (isAgg t).run P w = .ok (T t).ty.agg w := by
  obtain ⟨i, d, h1, h2, h3, h4, h5, _⟩ := (hT.ok hk).ex
  simp only [isAgg, Sem.run_bind, run_underlying h2, Result.andThen_ok]
  cases hd : d <;> cases hy : (T t).ty <;> simp_all [DescOk, Ty.agg]
theorem run_zeroValue (hT : TOk P T) (hk : (T t).ty.known = true) : ∃ z, (zeroValue t).run P w = .ok z w ∧ ∀ ρ I, Rels ρ I (T t).zero z.cells.toList := by
  obtain ⟨i, d, h1, h2, h3, h4, h5, ⟨z, h6, _, h7⟩, _⟩ := (hT.ok hk).ex
  exact ⟨z, by simp [zeroValue, run_typeInfo h1, h6], h7⟩
theorem under (hT : TOk P T) (hk : (T t).ty.known = true) : ∃ d, P.underlying t = some d ∧ DescOk d (T t).ty := by
  obtain ⟨i, d, h1, h2, h3, h4, h5, _⟩ := (hT.ok hk).ex
  exact ⟨d, h2, h5⟩
end run

/-- Cells read off a row. -/
theorem run_loadCellsFrom {P : Program} {w : World} {b o : Nat} {arr : Array Value} {el : TypeId} {fz : Nat × Nat} (h : w.heap[b]? = some (.cells arr el fz)) :
    ∀ (n i : Nat) (acc : Array Value), o + i + n ≤ arr.size → (loadCellsFrom ⟨b, o, none⟩ i n acc).run P w = .ok (acc ++ ((arr.toList.drop (o + i)).take n).toArray) w
  | 0, i, acc, _ => by simp [loadCellsFrom]
  | n + 1, i, acc, hn => by
    have hadd : (⟨b, o, none⟩ : Addr).add i = ⟨b, o + i, none⟩ := by unfold Addr.add; split <;> simp_all
    have hlt : o + i < arr.size := by omega
    have hcell : w.cell? ⟨b, o + i, none⟩ = some arr[o + i] := by simp [World.cell?, h, hlt]
    have hd : arr.toList.drop (o + i) = arr[o + i] :: arr.toList.drop (o + (i + 1)) := by
      rw [List.drop_eq_getElem_cons (by simpa using hlt)]; simp [Nat.add_assoc]
    simp only [loadCellsFrom, Sem.run_bind, run_load, hadd, hcell, Result.andThen_ok]
    rw [run_loadCellsFrom h n (i + 1) (acc.push arr[o + i]) (by omega), hd]
    simp
theorem run_loadCells {P : Program} {w : World} {b o : Nat} {arr : Array Value} {el : TypeId} {fz : Nat × Nat} (h : w.heap[b]? = some (.cells arr el fz)) (n : Nat) (hn : o + n ≤ arr.size) :
    (loadCells ⟨b, o, none⟩ n).run P w = .ok ((arr.toList.drop o).take n).toArray w := by
  have := run_loadCellsFrom (P := P) h n 0 #[] (by omega)
  simpa [loadCells] using this

/-- What a load at one place of a list of cells gives. -/
def loadV (T : Tab) (t : Nat) (cs : List V) (sub : Nat) : Option V :=
  match (T t).ty with
  | .other => none
  | y => match y.agg with
    | true => match (T t).size with
      | 0 => none
      | n + 1 => match take? (n + 1) (drop' sub cs) with
        | some l => some (.agg l)
        | none => none
    | false => nth cs sub

theorem run_loadVar {P : Program} {T : Tab} (hT : TOk P T) {w : World} {ρ : List (Option TE)} {I : Imm} {t b o sz sub : Nat} {arr : Array Value} {el : TypeId} {fz : Nat × Nat} {cs : List V} {v : V}
    (h : w.heap[b]? = some (.cells arr el fz)) (hl : cs.length = sz) (hr : Rels ρ I cs ((arr.toList.drop o).take sz)) (hv : loadV T t cs sub = some v) :
    ∃ x, (loadVar t ⟨b, o + sub, none⟩).run P w = .ok x w ∧ Rel ρ I v x := by
  have hk : (T t).ty.known = true := by cases hy : (T t).ty <;> simp [loadV, hy, Ty.known] at hv ⊢
  have hv' : (match (T t).ty.agg with | true => (match (T t).size with | 0 => none | n + 1 => match take? (n + 1) (drop' sub cs) with | some l => some (V.agg l) | none => none) | false => nth cs sub) = some v := by
    cases hy : (T t).ty <;> simp [loadV, hy] at hv ⊢ <;> exact hv
  have hlen : sz ≤ arr.size - o := by have := hr.length; simp at this; omega
  cases hag : (T t).ty.agg with
  | true =>
    simp only [hag] at hv'
    split at hv'
    · cases hv'
    rename_i n0 hn0
    rw [show n0 + 1 = (T t).size from hn0.symm] at hv'
    split at hv'
    · rename_i l hl'
      cases hv'
      obtain ⟨h1, h2⟩ := take?_eq hl'
      rw [drop'_eq] at h1
      have hle : sub + (T t).size ≤ sz := by
        have : l.length = min (T t).size (cs.length - sub) := by rw [h1]; simp
        omega
      have := run_loadCells (P := P) h (o := o + sub) (T t).size (by omega)
      refine ⟨.agg ((arr.toList.drop (o + sub)).take (T t).size).toArray, ?_, .agg _ _ ?_⟩
      · simp only [loadVar, Sem.run_bind, run_isAgg hT hk, Result.andThen_ok, hag, if_true, run_sizeOf hT hk, this, Sem.run_pure]
      · have h4 := (hr.drop sub).take (T t).size
        rw [← h1] at h4
        have h5 : List.take (T t).size (List.drop sub (List.take sz (List.drop o arr.toList))) = (arr.toList.drop (o + sub)).take (T t).size := by
          rw [List.drop_take, List.drop_drop, List.take_take, Nat.min_eq_left (by omega)]
        rw [h5] at h4
        simpa using h4
    · cases hv'
  | false =>
    simp only [hag] at hv'
    rw [nth_eq] at hv'
    obtain ⟨x, hx, hrel⟩ := hr.get sub hv'
    have hlt : sub < sz := by have := (List.getElem?_eq_some_iff.1 hv').1; omega
    have hx' : arr[o + sub]? = some x := by
      rw [List.getElem?_take_of_lt hlt, List.getElem?_drop] at hx; simpa using hx
    refine ⟨x, ?_, hrel⟩
    have hcell : w.cell? ⟨b, o + sub, none⟩ = some x := by simp [World.cell?, h, hx']
    simp only [loadVar, Sem.run_bind, run_isAgg hT hk, Result.andThen_ok, hag, Bool.false_eq_true, if_false, run_load, hcell]

end Go.Vx
/- Equality of abstract values; operators. -/
namespace Go.Vx
open Go Go.RowKit

def ikEq : IntKind → IntKind → Bool
  | .i8, .i8 | .i16, .i16 | .i32, .i32 | .i64, .i64 | .u8, .u8 | .u16, .u16 | .u32, .u32 | .u64, .u64 => true
  | _, _ => false
theorem ikEq_eq {a b : IntKind} (h : ikEq a b = true) : a = b := by cases a <;> cases b <;> first | rfl | simp [ikEq] at h

/-- A part of a list of cells, as a value of type t. -/
def partV (T : Tab) (t : Nat) (cs : List V) (off : Nat) : Option V :=
  match (T t).ty with
  | .other => none
  | y => match y.agg with
    | true => match take? (T t).size (drop' off cs) with
      | some l => some (.agg l)
      | none => none
    | false => nth cs off

theorem run_part {P : Program} {T : Tab} (hT : TOk P T) {w : World} {ρ : List (Option TE)} {I : Imm} {t off : Nat} {cs : List V} {xs : Array Value} {v : V}
    (hr : Rels ρ I cs xs.toList) (hv : partV T t cs off = some v) : ∃ x, (part t xs off).run P w = .ok x w ∧ Rel ρ I v x := by
  have hk : (T t).ty.known = true := by cases hy : (T t).ty <;> simp [partV, hy, Ty.known] at hv ⊢
  have hv' : (match (T t).ty.agg with | true => (match take? (T t).size (drop' off cs) with | some l => some (V.agg l) | none => none) | false => nth cs off) = some v := by
    cases hy : (T t).ty <;> simp [partV, hy] at hv ⊢ <;> exact hv
  cases hag : (T t).ty.agg with
  | true =>
    simp only [hag] at hv'
    split at hv'
    · rename_i l hl'
      cases hv'
      obtain ⟨h1, h2⟩ := take?_eq hl'
      rw [drop'_eq] at h1
      refine ⟨.agg (xs.extract off (off + (T t).size)), ?_, .agg _ _ ?_⟩
      · simp only [part, Sem.run_bind, run_isAgg hT hk, Result.andThen_ok, hag, if_true, run_sizeOf hT hk, Sem.run_pure]
      · have h4 := (hr.drop off).take (T t).size
        rw [← h1] at h4
        have h5 : (xs.extract off (off + (T t).size)).toList = List.take (T t).size (List.drop off xs.toList) := by
          simp [Array.toList_extract, List.extract_eq_take_drop]
        rw [h5]; exact h4
    · cases hv'
  | false =>
    simp only [hag] at hv'
    rw [nth_eq] at hv'
    obtain ⟨x, hx, hrel⟩ := hr.get off hv'
    refine ⟨x, ?_, hrel⟩
    have hx' : xs[off]? = some x := by simpa using hx
    simp only [part, Sem.run_bind, run_isAgg hT hk, Result.andThen_ok, hag, Bool.false_eq_true, if_false, hx', Sem.run_pure]

mutual
/-- '==' at a type, of plain data. -/
def eqV (T : Tab) : Nat → Nat → V → V → Option Bool
  | 0, _, _, _ => none
  | n + 1, t, x, y =>
    match (T t).ty, (T t).eq, x, y with
    | .bool, _, .bool a, .bool b => some (a == b)
    | .int _, _, .int k a, .int k' b => match ikEq k k' with
      | true => some (a == b)
      | false => none
    | .str, _, .str a, .str b => some (a == b)
    | .ptr _, _, .nilPtr, .nilPtr => some true
    | .ptr _, _, .nilPtr, .ptr _ _ _ => some false
    | .ptr _, _, .ptr _ _ _, .nilPtr => some false
    | .ptr _, _, .nilPtr, .ep _ _ _ _ _ => some false
    | .ptr _, _, .ep _ _ _ _ _, .nilPtr => some false
    | .slice _, _, .nilSl, .nilSl => some true
    | .slice _, _, .nilSl, .sl _ _ _ (_ + 1) _ => some false
    | .slice _, _, .sl _ _ _ (_ + 1) _, .nilSl => some false
    | .slice _, _, .nilSl, .slf _ _ _ _ _ => some false
    | .slice _, _, .slf _ _ _ _ _, .nilSl => some false
    | .func, _, .nilFunc, .nilFunc => some true
    | .func, _, .fn _ _, .nilFunc => some false
    | .func, _, .nilFunc, .fn _ _ => some false
    | .iface, _, .iface _ _, .nilIface => some false
    | .iface, _, .nilIface, .iface _ _ => some false
    | .struct fs, true, .agg xs, .agg ys => eqFs T n fs xs ys
    | .array m e, true, .agg xs, .agg ys => match (T e).ty.known with
      | true => eqIs T n e (List.range m) xs ys
      | false => none
    | _, _, _, _ => none
def eqFs (T : Tab) : Nat → List (Nat × Nat) → List V → List V → Option Bool
  | 0, _, _, _ => none
  | _ + 1, [], _, _ => some true
  | n + 1, (off, t) :: fs, xs, ys =>
    match partV T t xs off, partV T t ys off with
    | some a, some b => match eqV T n t a b, eqFs T n fs xs ys with
      | some r, some r' => some (r && r')
      | _, _ => none
    | _, _ => none
def eqIs (T : Tab) : Nat → Nat → List Nat → List V → List V → Option Bool
  | 0, _, _, _, _ => none
  | _ + 1, _, [], _, _ => some true
  | n + 1, e, i :: is, xs, ys =>
    match partV T e xs (i * (T e).size), partV T e ys (i * (T e).size) with
    | some a, some b => match eqV T n e a b, eqIs T n e is xs ys with
      | some r, some r' => some (r && r')
      | _, _ => none
    | _, _ => none
end

theorem beqBytes (s s' : ByteArray) : (s == s') = (s.data.toList == s'.data.toList) := by
  rw [beq_toListBytes, ByteArray.toList_eq, ByteArray.toList_eq]

set_option maxHeartbeats 2000000 in
theorem run_eqV {P : Program} {T : Tab} (hT : TOk P T) {ρ : List (Option TE)} {I : Imm} (n : Nat) :
    (∀ d t x y X Y r w, n ≤ d → Rel ρ I x X → Rel ρ I y Y → eqV T n t x y = some r → (Op.equalIn d t X Y).run P w = .ok r w) ∧
    (∀ d (fs : List Field) xs ys (X Y : Array Value) r w, n ≤ d → Rels ρ I xs X.toList → Rels ρ I ys Y.toList → (∀ f ∈ fs, f.name ≠ "_") → eqFs T n (fs.map fun f => (f.offset, f.type)) xs ys = some r → (Op.eqFields d X Y fs).run P w = .ok r w) ∧
    (∀ d e is xs ys (X Y : Array Value) r w, n ≤ d → Rels ρ I xs X.toList → Rels ρ I ys Y.toList → eqIs T n e is xs ys = some r → (Op.eqItems d e (T e).size X Y is).run P w = .ok r w) := by
  induction n with
  | zero => exact ⟨fun _ _ _ _ _ _ _ _ _ _ _ h => by simp [eqV] at h, fun _ _ _ _ _ _ _ _ _ _ _ _ h => by simp [eqFs] at h, fun _ _ _ _ _ _ _ _ _ _ _ _ h => by simp [eqIs] at h⟩
  | succ n ih =>
    obtain ⟨ih1, ih2, ih3⟩ := ih
    refine ⟨?_, ?_, ?_⟩
    · intro d t x y X Y r w hd hx hy h
      obtain ⟨d, rfl⟩ : ∃ d', d = d' + 1 := ⟨d - 1, by omega⟩
      have hk : (T t).ty.known = true := by
        cases hy : (T t).ty <;> first | rfl | (simp [eqV, hy] at h)
      obtain ⟨i, dd, h1, h2, h3, h4, h5, h6, h7⟩ := (hT.ok hk).ex
      unfold eqV at h
      split at h
      all_goals first | (cases h; done) | skip
      · rename_i ht; cases hx; cases hy; cases h; rw [ht] at h5; cases dd <;> simp [DescOk] at h5
        simp [Op.equalIn, run_underlying h2]
      · rename_i ht; split at h
        · rename_i hk'; have := ikEq_eq hk'; subst this; cases hx; cases hy; cases h; rw [ht] at h5; cases dd <;> simp [DescOk] at h5
          simp [Op.equalIn, run_underlying h2]
        · cases h
      · rename_i ht; cases hx; rename_i s1 hs1; cases hy; rename_i s2 hs2; cases h; subst hs1; subst hs2; rw [ht] at h5; cases dd <;> simp [DescOk] at h5
        simp [Op.equalIn, run_underlying h2, beqBytes]
      all_goals try (rename_i ht; cases hx <;> cases hy <;> cases h <;> (rw [ht] at h5; cases dd <;> simp [DescOk] at h5) <;> simp [Op.equalIn, run_underlying h2]; done)
      · rename_i ht he; cases hx; rename_i xa hxa; cases hy; rename_i ya hya
        rw [ht] at h5
        cases dd <;> simp [DescOk] at h5
        rename_i fs
        obtain ⟨h8, h9, h10⟩ := h7 he
        have hf : P.fieldsOf t = fs := by simp [Program.fieldsOf, h2]
        rw [run_equalIn_struct w d t xa ya (by rw [hf]; exact h2) h9, hf]
        subst h5
        exact ih2 d fs.toList _ _ _ _ _ w (by omega) hxa hya h10 h
      · rename_i ht he; cases hx; rename_i xa hxa; cases hy; rename_i ya hya
        rw [ht] at h5
        cases dd <;> simp [DescOk] at h5
        obtain ⟨rfl, rfl⟩ := h5
        rename_i m e
        split at h
        · rename_i hke
          obtain ⟨ie, de, g1, g2, g3, _⟩ := (hT.ok hke).ex
          rw [run_equalIn_array w d xa ya h2 g1, show P.cellsOf e = (T e).size from by show ((P.info? e).map (·.size)).getD 0 = _; rw [g1]; exact g3]
          exact ih3 d _ _ _ _ _ _ _ w (by omega) hxa hya h
        · cases h
    · intro d fs xs ys X Y r w hd hx hy hn h
      cases fs with
      | nil => simp [eqFs] at h; subst h; simp [Op.eqFields]
      | cons f fs =>
        simp only [List.map_cons, eqFs] at h
        split at h
        · rename_i a b ha hb
          split at h
          · rename_i r1 r2 hr1 hr2
            cases h
            obtain ⟨xa, hxa, hra⟩ := run_part (w := w) hT hx ha
            obtain ⟨ya, hya, hrb⟩ := run_part (w := w) hT hy hb
            have e1 := ih1 d f.type a b xa ya r1 w (by omega) hra hrb hr1
            have e2 := ih2 d fs xs ys X Y r2 w (by omega) hx hy (fun g hg => hn g (by simp [hg])) hr2
            simp only [Op.eqFields, hn f (by simp), ne_eq, not_false_eq_true, if_true, Sem.run_bind, hxa, hya, e1, Result.andThen_ok]
            cases r1 <;> simp [e2]
          · cases h
        · cases h
    · intro d e is xs ys X Y r w hd hx hy h
      cases is with
      | nil => simp [eqIs] at h; subst h; simp [Op.eqItems]
      | cons i is =>
        simp only [eqIs] at h
        split at h
        · rename_i a b ha hb
          split at h
          · rename_i r1 r2 hr1 hr2
            cases h
            obtain ⟨xa, hxa, hra⟩ := run_part (w := w) hT hx ha
            obtain ⟨ya, hya, hrb⟩ := run_part (w := w) hT hy hb
            have e1 := ih1 d e a b xa ya r1 w (by omega) hra hrb hr1
            have e2 := ih3 d e is xs ys X Y r2 w (by omega) hx hy hr2
            simp only [Op.eqItems, Sem.run_bind, hxa, hya, e1, Result.andThen_ok]
            cases r1 <;> simp [e2]
          · cases h
        · cases h

end Go.Vx
/- One operation on abstract values, and that the model's operation does what it says. -/
namespace Go.Vx
open Go Go.RowKit

inductive PR where
  | val (v : V)
  | upd (t : Nat) (b : Blk)
  | updv (t : Nat) (b : Blk) (v : V)
  | br (c : Bool) (r r' : PR)
  | all (p : Nat → Prop) (r : Nat → PR)
  | new (b : Blk) (n m sz : Nat) (v : Nat → V)
  | grd (c : Bool) (r : PR)
  | req (p : Prop) (r : PR)
  | app (t : Option Nat) (off : Nat) (b : Blk) (n sz : Nat) (v : Nat → V)
  | bad

def RunsTo (P : Program) (s : Sem Next) (w : World) (x : Value) (w' : World) : Prop :=
  s.run P w = .ok (.value x) w' ∨ (s.run P w = .ok .skip w' ∧ x = undef)

/-- A world with one block changed. -/
structure Turn (w : World) (b : Nat) (o : Obj) (w' : World) : Prop where
  new : w'.heap[b]? = some o
  old : ∀ k, k ≠ b → w'.heap[k]? = w.heap[k]?
  size : w'.heap.size = w.heap.size
  os : w'.os = w.os
  tape : w'.tape = w.tape
  output : w'.output = w.output

/-- How the world stands behind an append: what tag t held is no longer spoken of; a new row, in its place or elsewhere; or nothing at all (no memory yet, nothing appended). -/
def AppW (ρ : List (Option TE)) (I : Imm) (L : List Blk) (w : World) (x : Value) (w' : World) (t : Option Nat) (off : Nat) (b : Blk) (n sz : Nat) (v : Nat → V) : Prop :=
  (∃ te o, te.n = n ∧ te.sz = sz ∧ w'.heap[te.b]? = some o ∧
      (∀ ρ' t', TEs.le ρ ρ' → ρ'[t']? = some (some te) → BRel ρ' I te b o ∧ Rel ρ' I (v t') x) ∧
      (w.heap.size ≤ te.b ∨ ∃ t0 te0 blk0, t = some t0 ∧ L[t0]? = some blk0 ∧ blk0.live = true ∧ ρ[t0]? = some (some te0) ∧ te0.b = te.b ∧ te.sz = te0.sz ∧ te.o = te0.o + off * te0.sz ∧ te.m = te0.m - off) ∧
      (∀ k, k < w.heap.size → k ≠ te.b → w'.heap[k]? = w.heap[k]?) ∧ w.heap.size ≤ w'.heap.size ∧ w'.os = w.os ∧ w'.tape = w.tape ∧ w'.output = w.output) ∨
    (w' = w ∧ ∀ ρ' t', Rel ρ' I (v t') x)
def AppTo (P : Program) (ρ : List (Option TE)) (I : Imm) (L : List Blk) (w : World) (s : Sem Next) (t : Option Nat) (off : Nat) (b : Blk) (n sz : Nat) (v : Nat → V) : Prop :=
  ∃ x w', RunsTo P s w x w' ∧ AppW ρ I L w x w' t off b n sz v

def PR.Ok (P : Program) (ρ : List (Option TE)) (I : Imm) (L : List Blk) (w : World) (s : Sem Next) : PR → Prop
  | .val v => ∃ x, Rel ρ I v x ∧ RunsTo P s w x w
  | .upd t b => ∃ blk te o' w', L[t]? = some blk ∧ blk.live = true ∧ ρ[t]? = some (some te) ∧ BRel ρ I te b o' ∧ Turn w te.b o' w' ∧ RunsTo P s w undef w'
  | .updv t b v => ∃ blk te o' w' x, L[t]? = some blk ∧ blk.live = true ∧ ρ[t]? = some (some te) ∧ BRel ρ I te b o' ∧ Turn w te.b o' w' ∧ Rel ρ I v x ∧ RunsTo P s w x w'
  | .br c r r' => (c = true → r.Ok P ρ I L w s) ∧ (c = false → r'.Ok P ρ I L w s)
  | .all p r => ∃ i, p i ∧ (r i).Ok P ρ I L w s
  | .new b n m sz v => ∃ o x, RunsTo P s w x (w.alloc o) ∧ ∀ ρ' t, TEs.le ρ ρ' → ρ'[t]? = some (some ⟨w.heap.size, 0, sz, n, m⟩) → BRel ρ' I ⟨w.heap.size, 0, sz, n, m⟩ b o ∧ Rel ρ' I (v t) x
  | .grd c r => c = true → r.Ok P ρ I L w s
  | .req p r => p → r.Ok P ρ I L w s
  | .app t off b n sz v => AppTo P ρ I L w s t off b n sz v
  | .bad => True

def evO (tm : List V) : Operand → V
  | .tmp t => nthV tm t
  | .const v => ofC v
  | .global g => .glob g
  | .func f => .fn (.func f) []
theorem rel_evO {ρ I} {tm : List V} {a : Act} (h : Rels ρ I tm a.tmps.toList) (x : Operand) : Rel ρ I (evO tm x) (a.eval x) := by
  cases x with
  | tmp t =>
    simp only [evO, nthV, Act.eval, nth_eq]
    cases ht : tm[t]? with
    | some v =>
      obtain ⟨y, hy, hr⟩ := h.get t ht
      have : a.tmps.getD t undef = y := by rw [Array.getD_eq_getD_getElem?]; simp at hy; simp [hy]
      rw [this]; exact hr
    | none =>
      have hlen := h.length
      have : a.tmps.getD t undef = undef := by
        rw [Array.getD_eq_getD_getElem?]; have h1 := List.getElem?_eq_none_iff.1 ht; simp at hlen; simp [Array.getElem?_eq_none (show a.tmps.size ≤ t by omega)]
      rw [this]; exact .tup _ _ .nil
  | const v => exact rel_ofC ρ I v
  | global g => exact .glob _
  | func f => exact .fn _ _ _ .nil

def cellsV : V → Option (List V)
  | .agg l => some l
  | .any | .tup _ => none
  | v => some [v]
theorem cellsV_rel {ρ I} {v : V} {x : Value} {l : List V} (h : Rel ρ I v x) (hl : cellsV v = some l) : Rels ρ I l x.cells.toList := by
  cases h <;> simp [cellsV] at hl <;> subst hl <;> first | assumption | exact .cons _ _ _ _ (by constructor <;> assumption) .nil

def lenIs {α : Type} : Nat → List α → Bool
  | 0, [] => true
  | n + 1, _ :: l => lenIs n l
  | _, _ => false
theorem lenIs_eq {α : Type} {n : Nat} {l : List α} (h : lenIs n l = true) : l.length = n := by
  induction l generalizing n with
  | nil => cases n <;> simp [lenIs] at h ⊢
  | cons x l ih => cases n with | zero => simp [lenIs] at h | succ n => simp [lenIs] at h; simp [ih h]

/-! ### Composite values -/
def fillV (place : Nat → Option (Nat × Nat)) : List V → List (Nat × V) → Option (List V)
  | cells, [] => some cells
  | cells, (i, v) :: rest =>
    match place i, cellsV v with
    | some (off, size), some vs => match lenIs size vs, splice cells off vs with
      | true, some c => fillV place c rest
      | _, _ => none
    | _, _ => none

theorem foldl_setIf (off : Nat) : ∀ (vs : List Value) (k : Nat) (cs : Array Value), off + k + vs.length ≤ cs.size →
    ((vs.zipIdx k).foldl (fun cs (p : Value × Nat) => cs.setIfInBounds (off + p.2) p.1) cs).toList = cs.toList.take (off + k) ++ vs ++ cs.toList.drop (off + k + vs.length)
  | [], k, cs, _ => by simp
  | v :: vs, k, cs, h => by
    simp only [List.zipIdx_cons, List.foldl_cons]
    simp at h
    rw [foldl_setIf off vs (k + 1) (cs.setIfInBounds (off + k) v) (by simp; omega)]
    simp only [Array.toList_setIfInBounds]
    have hlt : off + k < cs.toList.length := by simp; omega
    have h1 : (cs.toList.set (off + k) v).take (off + (k + 1)) = cs.toList.take (off + k) ++ [v] := by
      rw [show off + (k + 1) = off + k + 1 by omega, List.take_add_one, List.take_set_of_le (Nat.le_refl _), List.getElem?_set_self hlt]
      rfl
    rw [h1]
    simp [List.drop_set, show off + (k + 1) + vs.length = off + k + (vs.length + 1) by omega]

theorem run_fill {ρ I} {place : Nat → Option (Nat × Nat)} : ∀ {parts : List (Nat × V)} {ps : List (Nat × Value)} {cells r : List V} {cs : Array Value}, Rels ρ I cells cs.toList →
    parts.map (·.1) = ps.map (·.1) → Rels ρ I (parts.map (·.2)) (ps.map (·.2)) → fillV place cells parts = some r → ∃ c, Instr.fill place cs ps = some c ∧ Rels ρ I r c.toList
  | [], [], cells, r, cs, h, _, _, hf => by simp [fillV] at hf; subst hf; exact ⟨cs, rfl, h⟩
  | [], _ :: _, _, _, _, _, he, _, _ => by simp at he
  | _ :: _, [], _, _, _, _, he, _, _ => by simp at he
  | (i, v) :: parts, (j, x) :: ps, cells, r, cs, h, he, hr, hf => by
    simp at he
    obtain ⟨rfl, he⟩ := he
    cases hr with
    | cons _ _ _ _ hv hr =>
    simp only [fillV] at hf
    split at hf
    · rename_i off size vs hp hc
      split at hf
      · rename_i c hl hs
        have hcs := cellsV_rel hv hc
        obtain ⟨h1, h2⟩ := splice_eq hs
        have hlen := h.length
        have hlen2 := hcs.length
        have hl' := lenIs_eq hl
        simp at hlen hlen2
        have hnew : Rels ρ I c (cs.toList.take off ++ x.cells.toList ++ cs.toList.drop (off + x.cells.size)) := by
          rw [h2, show off + x.cells.size = off + vs.length by omega]
          exact ((h.take off).append hcs).append (h.drop _)
        have hfold := foldl_setIf off x.cells.toList 0 cs (by simp; omega)
        have hfold2 : (x.cells.zipIdx.foldl (fun cs (p : Value × Nat) => cs.setIfInBounds (off + p.2) p.1) cs).toList = cs.toList.take off ++ x.cells.toList ++ cs.toList.drop (off + x.cells.size) := by
          rw [← Array.foldl_toList, Array.toList_zipIdx]
          simpa using hfold
        rw [← hfold2] at hnew
        obtain ⟨c', h3, h4⟩ := run_fill hnew (by simpa using he) hr hf
        refine ⟨c', ?_, h4⟩
        simp only [Instr.fill, hp]
        rw [if_neg]
        · exact h3
        · simp; omega
      · cases hf
    · cases hf

def places (T : Tab) : List (Nat × Nat) → Option (List (Nat × Nat))
  | [] => some []
  | (off, t) :: fs => match (T t).ty.known, places T fs with
    | true, some r => some ((off, (T t).size) :: r)
    | _, _ => none
def buildV (T : Tab) (t : Nat) (parts : List (Nat × V)) : Option (List V) :=
  match (T t).ty with
  | .struct fs => match places T fs with
    | some ps => fillV (fun i => nth ps i) (T t).zero parts
    | none => none
  | .array _ e => match (T e).ty.known with
    | true => fillV (fun i => some (i * (T e).size, (T e).size)) (T t).zero parts
    | false => none
  | _ => none

theorem run_places {P : Program} {T : Tab} (hT : TOk P T) {w : World} : ∀ (fs : List Field) (ps : List (Nat × Nat)), places T (fs.map fun f => (f.offset, f.type)) = some ps →
    (fs.mapM fun f => (do pure (f.offset, ← sizeOf f.type) : Sem (Nat × Nat))).run P w = .ok ps w
  | [], ps, h => by simp [places] at h; subst h; simp
  | f :: fs, ps, h => by
    simp only [List.map_cons, places] at h
    split at h
    · rename_i r hk hr
      cases h
      have ih := run_places hT (w := w) fs r hr
      simp only [List.mapM_cons, Sem.run_bind, run_sizeOf hT hk, Result.andThen_ok, Sem.run_pure, ih]
    · cases h

theorem run_build {P : Program} {T : Tab} (hT : TOk P T) {w : World} {ρ I} {t : Nat} {parts : List (Nat × V)} {ps : Array (Nat × Value)} {r : List V}
    (he : parts.map (·.1) = ps.toList.map (·.1)) (hr : Rels ρ I (parts.map (·.2)) (ps.toList.map (·.2))) (hb : buildV T t parts = some r) :
    ∃ c : Array Value, (Instr.build t ps).run P w = .ok (.agg c) w ∧ Rels ρ I r c.toList := by
  have hk : (T t).ty.known = true := by cases hy : (T t).ty <;> simp [buildV, hy, Ty.known] at hb ⊢
  obtain ⟨z, hz, hz2⟩ := run_zeroValue (w := w) hT hk
  obtain ⟨d, hd, hdo⟩ := under hT hk
  simp only [buildV] at hb
  split at hb
  · rename_i fs hty
    rw [hty] at hdo
    cases d <;> simp [DescOk] at hdo
    rename_i fields
    split at hb
    · rename_i pl hpl
      rw [← hdo] at hpl
      have h1 := run_places hT (w := w) fields.toList pl hpl
      obtain ⟨c, h2, h3⟩ := run_fill (hz2 ρ I) he hr hb
      refine ⟨c, ?_, h3⟩
      have h4 : (fields.mapM fun f => (do pure (f.offset, ← sizeOf f.type) : Sem (Nat × Nat))).run P w = .ok pl.toArray w := by
        rw [Array.mapM_eq_mapM_toList, Sem.run_map, h1]
        rfl
      simp only [Instr.build, Sem.run_bind, hz, Result.andThen_ok, run_underlying hd, h4]
      have h5 : (fun i => pl.toArray[i]?) = fun i => nth pl i := by funext i; simp [nth_eq]
      simp only [h5, h2, Sem.run_pure]
    · cases hb
  · rename_i n e hty
    rw [hty] at hdo
    cases d <;> simp [DescOk] at hdo
    obtain ⟨rfl, rfl⟩ := hdo
    split at hb
    · rename_i hke
      obtain ⟨c, h2, h3⟩ := run_fill (hz2 ρ I) he hr hb
      refine ⟨c, ?_, h3⟩
      simp only [Instr.build, Sem.run_bind, hz, Result.andThen_ok, run_underlying hd, run_sizeOf hT hke, h2, Sem.run_pure]
    · cases hb
  · cases hb

end Go.Vx
