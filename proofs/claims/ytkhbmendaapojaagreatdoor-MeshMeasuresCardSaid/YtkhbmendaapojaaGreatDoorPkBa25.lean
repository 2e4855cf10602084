/- From the data that arguments read as to abstract values. A law's contract on abstract values says what the law's row asks. What fits the laws' parameters: meshes, drafts, changes. What this seat's laws share: the variables that are listed, a start that fits. Printed by a program. -/
import Derived.Test.YtkhbmendaapojaaGreatDoorPkBa12
import Derived.OpenShut
import Derived.DataReads
import Derived.Below
import Derived.ChangeSame
import Derived.Carry
import Derived.ProofKit
import Derived.Test.YtkhbmendaapojaaGreatDoorPkBa18
import Derived.Test.YtkhbmendaapojaaGreatDoorPkBa13
import Derived.Test.YtkhbmendaapojaaGreatDoorTie
import Derived.Test.YtkhbmendaapojaaGreatDoorCards
import Derived.LaidMore
import Derived.LaidHandle
import Derived.Stop.Joined
import Derived.ChangeVars
import Derived.JoinedOf
import Derived.RowKitTokens
import Derived.LaidLaws
set_option linter.unusedSimpArgs false
set_option linter.unusedVariables false
/- From the data that arguments read as to abstract values. -/
namespace Go.Vx
open Go Go.RowKit

/-- The slices among some cells lie in rows of cells. -/
def SlOk (w : World) (cs : List Value) : Prop := ∀ a l c, Value.slice (some a) l c ∈ cs → a.spot = none ∧ ∃ arr el fz, w.heap[a.block]? = some (.cells arr el fz)
/-- What one cell is: a plain value; a slice of rows of plain values. -/
inductive Lf where
  | sh (s : Sh)
  | sl (e : List Sh)
def shsOf : List Lf → Option (List Sh)
  | [] => some []
  | .sh s :: l => match shsOf l with
    | some r => some (s :: r)
    | none => none
  | .sl _ :: _ => none
def lfFs (F : Nat → Option (List Lf)) (T : Tab) (total : Nat) : Nat → List (Nat × Nat) → Option (List Lf)
  | off, [] => if off = total then some [] else none
  | off, (o, t) :: fs => if o = off then match F t, lfFs F T total (off + (T t).size) fs with
    | some a, some b => some (a ++ b)
    | _, _ => none
    else none
/-- A type's cells. -/
def lfT (T : Tab) : Bool → Nat → Nat → Option (List Lf)
  | _, 0, _ => none
  | top, n + 1, t => match (T t).ty with
    | .int k => some [.sh (.int k)]
    | .bool => some [.sh .bool]
    | .str => some [.sh .str]
    | .slice e => match top, lfT T false n e with
      | true, some l => match shsOf l with
        | some s => if s.length = (T e).size then some [.sl s] else none
        | none => none
      | _, _ => none
    | .struct fs => lfFs (lfT T top n) T (T t).size 0 fs
    | .array m e => match lfT T top n e with
      | some l => if (T t).size = m * (T e).size then some (List.flatten (List.replicate m l)) else none
      | none => none
    | _ => none

def FitS : List Sh → List V → Prop
  | [], [] => True
  | .int k :: ls, .int k' x :: vs => k' = k ∧ (k.min ≤ x ∧ x ≤ k.max) ∧ FitS ls vs
  | .bool :: ls, .bool _ :: vs => FitS ls vs
  | .str :: ls, .str _ :: vs => FitS ls vs
  | _, _ => False
def FitL : List Lf → List V → Prop
  | [], [] => True
  | .sh s :: ls, v :: vs => FitS [s] [v] ∧ FitL ls vs
  | .sl e :: ls, v :: vs => (∃ (len : Nat) (gi : Nat → Nat → Int) (gb : Nat → Nat → Bool) (gs : Nat → Nat → List UInt8), v = .ro e.length len (fun i => shV e (gi i) (gb i) (gs i) 0) ∧ len ≤ maxLen ∧ ∀ i, i < len → FitS e (shV e (gi i) (gb i) (gs i) 0)) ∧ FitL ls vs
  | _, _ => False
theorem FitL.append : ∀ {l m : List Lf} {us vs : List V}, FitL l us → FitL m vs → FitL (l ++ m) (us ++ vs)
  | [], _, [], _, _, h => h
  | .sh _ :: _, _, _ :: _, _, h, k => ⟨h.1, FitL.append h.2 k⟩
  | .sl _ :: _, _, _ :: _, _, h, k => ⟨h.1, FitL.append h.2 k⟩
  | [], _, _ :: _, _, h, _ => h.elim
  | .sh _ :: _, _, [], _, h, _ => h.elim
  | .sl _ :: _, _, [], _, h, _ => h.elim
theorem FitL.toS : ∀ {l : List Lf} {s : List Sh} {vs : List V}, shsOf l = some s → FitL l vs → FitS s vs
  | [], s, [], h, _ => by simp [shsOf] at h; subst h; trivial
  | [], _, _ :: _, _, k => k.elim
  | .sh a :: l, s, [], _, k => k.elim
  | .sh a :: l, s, v :: vs, h, k => by
    simp only [shsOf] at h
    split at h
    · rename_i r hr
      cases h
      obtain ⟨k1, k2⟩ := k
      have := FitL.toS hr k2
      cases a <;> cases v <;> simp only [FitS] at k1 ⊢ <;> first
        | exact this
        | exact k1.elim
        | exact ⟨k1.1, k1.2.1, this⟩
    · cases h
  | .sl _ :: _, _, _, h, _ => by simp [shsOf] at h
theorem FitS.length : ∀ {s : List Sh} {vs : List V}, FitS s vs → vs.length = s.length
  | [], [], _ => rfl
  | [], _ :: _, h => h.elim
  | .int _ :: _, [], h => h.elim
  | .bool :: _, [], h => h.elim
  | .str :: _, [], h => h.elim
  | .int _ :: s, v :: vs, h => by cases v <;> first | exact h.elim | (simp [FitS.length h.2.2])
  | .bool :: s, v :: vs, h => by cases v <;> first | exact h.elim | (simp [FitS.length (s := s) h])
  | .str :: s, v :: vs, h => by cases v <;> first | exact h.elim | (simp [FitS.length (s := s) h])
theorem FitS.row : ∀ {s : List Sh} {vs : List V}, FitS s vs → rowOk s vs = true
  | [], [], _ => rfl
  | [], _ :: _, h => h.elim
  | .int _ :: _, [], h => h.elim
  | .bool :: _, [], h => h.elim
  | .str :: _, [], h => h.elim
  | .int k :: s, v :: vs, h => by
    cases v <;> first | exact h.elim | skip
    obtain ⟨rfl, _, h2⟩ := h
    have := FitS.row h2
    simp only [rowOk, this]
    have hkk : ∀ k : IntKind, ikEq k k = true := fun k => by cases k <;> rfl
    simp only [hkk]
  | .bool :: s, v :: vs, h => by cases v <;> first | exact h.elim | (exact FitS.row (s := s) h)
  | .str :: s, v :: vs, h => by cases v <;> first | exact h.elim | (exact FitS.row (s := s) h)

section
variable {H : Type} {enc : TypeId × Value → H} {P : Program} {T : Tab} {w : World} {sp : Nat → Bool} {held : Bool}
theorem cellsOf_eq (hT : TOk P T) {t : Nat} (hk : (T t).ty.known = true) : P.cellsOf t = (T t).size := by
  obtain ⟨i, d, h1, h2, h3, _⟩ := (hT.ok hk).ex
  simp [Program.cellsOf, h1, h3]
theorem lf_known {top : Bool} {n t : Nat} {l : List Lf} (h : lfT T top n t = some l) : (T t).ty.known = true := by
  cases n with
  | zero => cases h
  | succ n => cases hy : (T t).ty <;> first | rfl | (simp [lfT, hy] at h)

theorem lf_of_trod (hT : TOk P T) : ∀ (n : Nat) (top : Bool) (t : Nat) (l : List Lf), lfT T top n t = some l → ∀ {fuel : Nat} {cs : List Value} {x : DataW H × List MemPlace},
    DataW.trod enc P w 0 sp held fuel t cs = some x → (top = true → SlOk w cs) → ∃ vs, Rels [] (fun b => w.heap[b]?) vs cs ∧ FitL l vs := by
  intro n
  induction n with
  | zero => intro top t l h; cases h
  | succ n ih =>
    intro top t l hl fuel cs x hx hs
    have hk := lf_known hl
    obtain ⟨d, hd, hdo⟩ := under hT hk
    have hsz := cellsOf_eq hT hk
    cases hy : (T t).ty <;> simp only [lfT, hy] at hl <;> rw [hy] at hdo <;> cases d <;> simp only [DescOk] at hdo <;> try (cases hl; done)
    case bool.bool =>
      cases hl
      obtain ⟨b, rfl, _⟩ := DataW.trod_bool hd hx
      exact ⟨[.bool b], .cons _ _ _ _ (.bool b) .nil, trivial, trivial⟩
    case int.int k k' =>
      subst hdo
      cases hl
      obtain ⟨m, rfl, _, hw⟩ := DataW.trod_int hd hx
      simp only [Lit.wf, Bool.and_eq_true, decide_eq_true_eq] at hw
      exact ⟨[.int _ m], .cons _ _ _ _ (.int _ m) .nil, ⟨rfl, hw, trivial⟩, trivial⟩
    case str.string =>
      cases hl
      obtain ⟨s, rfl, _⟩ := DataW.trod_string hd hx
      exact ⟨[.str s.data.toList], .cons _ _ _ _ (.str s _ rfl) .nil, trivial, trivial⟩
    case slice.slice e0 e =>
      subst hdo
      split at hl <;> try (cases hl; done)
      rename_i _ le hle
      split at hl <;> try (cases hl; done)
      rename_i s hsh
      split at hl <;> try (cases hl; done)
      rename_i hlen
      cases hl
      have hke := lf_known hle
      have hsze := cellsOf_eq hT hke
      rcases DataW.trod_slice hd hx with ⟨rfl, _⟩ | ⟨a, len, cap, elems, rest, m, _, rfl, _, _, hlc, hcm, hel, hget, _, _⟩
      · exact ⟨[.ro s.length 0 (fun _ => shV s (fun _ => 0) (fun _ => false) (fun _ => []) 0)], .cons _ _ _ _ (.roNil _ _) .nil, ⟨0, fun _ _ => 0, fun _ _ => false, fun _ _ => [], rfl, Nat.zero_le _, fun i hi => by omega⟩, trivial⟩
      · obtain ⟨hspot, arr, el, fz, hheap⟩ := hs rfl a len cap (by simp)
        obtain ⟨b, off, spot⟩ := a
        simp only at hspot hheap
        subst hspot
        have each : ∀ i, i < len → ∃ vs, Rels [] (fun b => w.heap[b]?) vs ((arr.toList.drop (off + i * (T e).size)).take (T e).size) ∧ FitS s vs := by
          intro i hi
          have h1 := hget i hi
          rw [List.getElem?_eq_getElem (by omega), Option.bind_eq_some_iff] at h1
          obtain ⟨cs', hcs, hy'⟩ := h1
          rw [hsze] at hcs
          obtain ⟨vs, hv, hf⟩ := ih false _ le hle hy' (fun h => by cases h)
          obtain ⟨_, hl2, hc2⟩ := World.cells?_some hcs
          have : cs' = (arr.toList.drop (off + i * (T e).size)).take (T e).size := by
            apply List.ext_getElem?
            intro j
            by_cases hj : j < (T e).size
            · rw [← hc2 j hj, List.getElem?_take_of_lt hj, List.getElem?_drop]
              rw [addr_add, addr_add]
              simp [World.cell?, hheap]
            · rw [List.getElem?_eq_none (by omega), List.getElem?_eq_none (by simp; omega)]
          exact ⟨vs, this ▸ hv, FitL.toS hsh hf⟩
        have each' : ∀ i, ∃ vs, i < len → Rels [] (fun b => w.heap[b]?) vs ((arr.toList.drop (off + i * (T e).size)).take (T e).size) ∧ FitS s vs := fun i => by
          by_cases hi : i < len
          · obtain ⟨vs, h⟩ := each i hi; exact ⟨vs, fun _ => h⟩
          · exact ⟨[], fun h => absurd h hi⟩
        let f := fun i => Classical.choose (each' i)
        have hf : ∀ i, i < len → Rels [] (fun b => w.heap[b]?) (f i) ((arr.toList.drop (off + i * (T e).size)).take (T e).size) ∧ FitS s (f i) := fun i => Classical.choose_spec (each' i)
        have key : ∀ i, i < len → shV s (fun c => cInt (nthV (f i) c)) (fun c => cBool (nthV (f i) c)) (fun c => cStr (nthV (f i) c)) 0 = f i := fun i hi => by
          have := row_sh (pre := []) (FitS.row (hf i hi).2)
          simpa using this
        refine ⟨[.ro s.length len (fun i => shV s (fun c => cInt (nthV (f i) c)) (fun c => cBool (nthV (f i) c)) (fun c => cStr (nthV (f i) c)) 0)], .cons _ _ _ _ ?_ .nil, ⟨len, fun i c => cInt (nthV (f i) c), fun i c => cBool (nthV (f i) c), fun i c => cStr (nthV (f i) c), rfl, by omega, fun i hi => by rw [key i hi]; exact (hf i hi).2⟩, trivial⟩
        refine .ro _ _ _ b off cap arr el fz hheap hlc (fun i hi => by rw [shV_length]) (fun i hi => ?_)
        rw [key i hi, hlen]
        exact (hf i hi).1
    case struct.struct fs fs' =>
      obtain ⟨xs, m, _, _, hcl, hxl, hf⟩ := DataW.trod_struct hd hx
      have key : ∀ (fl : List Field) (off j : Nat) (l : List Lf), lfFs (lfT T top n) T (T t).size off (fl.map fun f => (f.offset, f.type)) = some l →
          (∀ i f, fl[i]? = some f → fs'[j + i]? = some f) → ∃ vs, Rels [] (fun b => w.heap[b]?) vs (cs.drop off) ∧ FitL l vs := by
        intro fl
        induction fl with
        | nil =>
          intro off j l h _
          simp only [List.map_nil, lfFs] at h
          split at h
          · rename_i h0; cases h
            rw [List.drop_of_length_le (by omega)]
            exact ⟨[], .nil, trivial⟩
          · cases h
        | cons f fl ihf =>
          intro off j l h hget
          simp only [List.map_cons, lfFs] at h
          split at h
          · rename_i h0
            split at h
            · rename_i a b ha hb
              cases h
              have hkf := lf_known ha
              obtain ⟨vs2, r2, f2⟩ := ihf _ (j + 1) b hb (fun i g hg => by have := hget (i + 1) g (by simpa using hg); rw [show j + 1 + i = j + (i + 1) by omega]; exact this)
              have hfj := hf j f (by have := hget 0 f (by simp); simpa using this)
              have hjl : j < xs.length := by
                have := hget 0 f (by simp)
                have := (Array.getElem?_eq_some_iff.1 this).1
                simp at this; omega
              rw [List.getElem?_eq_getElem hjl, cellsOf_eq hT hkf, h0] at hfj
              obtain ⟨vs1, r1, f1⟩ := ih top _ a ha hfj (fun ht a' l' c' hm => hs ht a' l' c' (List.mem_of_mem_drop (List.mem_of_mem_take hm)))
              refine ⟨vs1 ++ vs2, ?_, f1.append f2⟩
              have := r1.append r2
              rwa [← List.drop_drop, List.take_append_drop] at this
            · cases h
          · cases h
      rw [← hdo] at hl
      have := key fs'.toList 0 0 l hl (fun i f h => by simpa using h)
      simpa using this
    case array.array m e m' e' =>
      obtain ⟨rfl, rfl⟩ := hdo
      split at hl <;> try (cases hl; done)
      rename_i le hle
      split at hl <;> try (cases hl; done)
      rename_i hmul
      cases hl
      have hke := lf_known hle
      obtain ⟨xs, m0, _, _, hcl, hxl, hf⟩ := DataW.trod_array hd hx
      rw [cellsOf_eq hT hke] at hf
      have key : ∀ k, k ≤ m' → ∃ vs, Rels [] (fun b => w.heap[b]?) vs (cs.take (k * (T e').size)) ∧ FitL (List.flatten (List.replicate k le)) vs := by
        intro k
        induction k with
        | zero => intro _; exact ⟨[], by simp; exact .nil, trivial⟩
        | succ k ihk =>
          intro hk'
          obtain ⟨vs1, r1, f1⟩ := ihk (by omega)
          have h1 := hf k (by omega)
          rw [List.getElem?_eq_getElem (by omega)] at h1
          obtain ⟨vs2, r2, f2⟩ := ih top _ le hle h1 (fun ht a' l' c' hm => hs ht a' l' c' (List.mem_of_mem_drop (List.mem_of_mem_take hm)))
          refine ⟨vs1 ++ vs2, ?_, ?_⟩
          · rw [Nat.add_mul, Nat.one_mul, List.take_add]
            exact r1.append r2
          · rw [List.replicate_succ', List.flatten_append]
            have : List.flatten [le] = le := by simp
            rw [this]
            exact f1.append f2
      have := key m' (Nat.le_refl _)
      rwa [List.take_of_length_le (by omega)] at this
end
end Go.Vx
/- A law's contract on abstract values says what the law's row asks. -/
namespace Go.Vx
open Go Go.RowKit Go.ChangeShapes Go.WideShapes

section
variable {H : Type} {enc : TypeId × Value → H} {P : Program}
/-- The row's last step where new rows may be frozen (after the guide's page of small extras). -/
theorem post_of_below {f : Func} {s : ChangeSpec} {apart fresh handsOn again : Bool} {W W' : World} {args : Array Value} {v : Value} {ds gs : List (DataW H)} {before pa pv : List MemPlace}
    (hW : DataW.Whole enc P f.params.toList s.vars apart W args.toList ds gs before)
    (hres : ∀ (b : Nat) (sp : Nat → Bool) (hd : Bool), DataW.TrodAll enc P W' b sp hd f.resultTypes.toList (v.resultList f.resultTypes.size) (s.fn H (ds ++ gs)).results [])
    (hargs : ∀ sp : Nat → Bool, (∀ p ∈ before, sp p.block = true) → DataW.TrodAll enc P W' 0 sp true f.params.toList args.toList (s.fn H (ds ++ gs)).args pa)
    (hvars : ∀ sp : Nat → Bool, (∀ p ∈ before, sp p.block = true) → DataW.TrodVars enc P W' sp s.vars (s.fn H (ds ++ gs)).vars pv)
    (hps : before = pa ++ pv) (hb : Below W.heap.size W W')
    (hok : ∀ (j : Nat) (t : TypeId) (r : Value), f.resultTypes[j]? = some t → (v.resultList f.resultTypes.size)[j]? = some r → Value.okWide P W' .any 0 t r) :
    s.post enc P f apart fresh handsOn again W args v W' := by
  have hlt : ∀ p ∈ before, p.block < W.heap.size := fun p hp => hW.lt p hp
  have hold : ∀ p ∈ before, (fun b => decide (b < W.heap.size)) p.block = true := fun p hp => by simpa using hlt p hp
  refine ⟨ds, gs, before, [], pa, pv, hW, hres _ _ _, hargs _ hold, hvars _ hold, World.keptBut_mono (fun p hp => ⟨hp, ?_⟩) (hb.frame (· ∈ before)), fun _ => ?_⟩
  · rw [hps, List.mem_append] at hp
    exact Or.inr hp
  · obtain ⟨_, _, _, _, _, hz, hn⟩ := hW
    refine ⟨hok, _, _, ([] ++ pa) ++ pv, ⟨[] ++ pa, pv, trodAll_append (hargs _ (fun _ _ => rfl)) (hres _ _ _), hvars _ (fun _ _ => rfl), rfl, ?_, ?_⟩, ?_⟩
    · intro b off hp
      have hin : MemPlace.cell b off ∈ before := by rw [hps]; simpa using hp
      rw [hb.frozen (hlt _ hin)]
      exact hz b off hin
    · intro ha
      have := hn ha
      rw [hps] at this
      simpa using this
    · intro p hp _
      rw [hps]
      simpa using hp

theorem slOk_row {w : World} {base : Nat} {t : TypeId} {cs : Array Value} (h : Row.okWide P w .any base t cs) : SlOk w cs.toList := by
  obtain ⟨ts, _, _, h3⟩ := h
  intro a l c hm
  obtain ⟨i, hi⟩ := List.getElem?_of_mem hm
  obtain ⟨u, _, hu⟩ := h3 i _ (by simpa using hi)
  unfold Cell.okWide at hu
  have key : Cell.ok P w .any base u (.slice (some a) l c) := by
    split at hu <;> first | (rename_i h1; cases h1; done) | exact hu
  unfold Cell.ok at key
  split at key <;> first
    | exact key.elim
    | (rename_i heq; cases heq; done)
    | (rename_i heq
       cases heq
       obtain ⟨_, _, _, hs, row, cells, hsh, _⟩ := key
       refine ⟨hs, ?_⟩
       unfold World.shape? at hsh
       split at hsh
       · rename_i c' el fz hh; exact ⟨_, _, _, hh⟩
       · cases hsh)
theorem slOk_one {w : World} {base : Nat} {t : TypeId} {v : Value} (h : Cell.okWide P w .any base t v) : SlOk w [v] := by
  intro a l c hm
  obtain rfl := List.mem_singleton.1 hm
  unfold Cell.okWide at h
  have key : Cell.ok P w .any base t (.slice (some a) l c) := by
    split at h <;> first | (rename_i h1; cases h1; done) | exact h
  unfold Cell.ok at key
  split at key <;> first
    | exact key.elim
    | (rename_i heq; cases heq; done)
    | (rename_i heq
       cases heq
       obtain ⟨_, _, _, hs, row, cells, hsh, _⟩ := key
       refine ⟨hs, ?_⟩
       unfold World.shape? at hsh
       split at hsh
       · rename_i c' el fz hh; exact ⟨_, _, _, hh⟩
       · cases hsh)

/-- An argument as an abstract value. -/
def FitV (T : Tab) (t : Nat) (v : V) : Prop := ∃ l vs, lfT T true 9 t = some l ∧ FitL l vs ∧ match (T t).ty.agg with
  | true => v = .agg vs
  | false => vs = [v]
def FitAll (T : Tab) : List Nat → List V → Prop
  | [], [] => True
  | t :: ts, v :: vs => FitV T t v ∧ FitAll T ts vs
  | _, _ => False

theorem fitAll_of_trod {T : Tab} (hT : TOk P T) {W : World} {base : Nat} : ∀ {ts : List Nat} {vs : List Value} {ds : List (DataW H)} {p : List MemPlace},
    (∀ t ∈ ts, (lfT T true 9 t).isSome = true) → (∀ (j : Nat) t v, ts[j]? = some t → vs[j]? = some v → Value.okWide P W .any base t v) →
    DataW.TrodAll enc P W 0 (fun _ => true) true ts vs ds p → ∃ Vs, Rels [] (fun b => W.heap[b]?) Vs vs ∧ FitAll T ts Vs
  | [], vs, ds, p, _, _, h => by
    obtain ⟨rfl, rfl, rfl⟩ := trodAll_nil h
    exact ⟨[], .nil, trivial⟩
  | t :: ts, vs, ds, p, hl, hv, h => by
    obtain ⟨v, vs1, d, ds1, a, b, rfl, rfl, rfl, h1, h2⟩ := trodAll_cons h
    obtain ⟨Vs, r1, f1⟩ := fitAll_of_trod hT (fun t ht => hl t (List.mem_cons_of_mem _ ht)) (fun j u x hj hx => hv (j + 1) u x (by simpa using hj) (by simpa using hx)) h2
    obtain ⟨l, hle⟩ := Option.isSome_iff_exists.1 (hl t (List.mem_cons_self))
    have hk := lf_known hle
    obtain ⟨dd, hd, hdo⟩ := under hT hk
    have hok := hv 0 t v (by simp) (by simp)
    obtain ⟨fuel, h1⟩ := h1
    unfold Value.okWide at hok
    cases hag : (T t).ty.agg with
    | true =>
      have hcs : ∃ cs, v = .agg cs ∧ Row.okWide P W .any base t cs := by
        cases hy : (T t).ty <;> rw [hy] at hag <;> simp [Ty.agg] at hag <;> rw [hy] at hdo <;> cases dd <;> simp only [DescOk] at hdo <;> rw [hd] at hok <;> exact ⟨hok.choose, hok.choose_spec.1, hok.choose_spec.2.2⟩
      obtain ⟨cs, rfl, hrow⟩ := hcs
      obtain ⟨vs, hr, hf⟩ := lf_of_trod hT 9 true t l hle h1 (fun _ => slOk_row hrow)
      exact ⟨.agg vs :: Vs, .cons _ _ _ _ (.agg _ _ hr) r1, ⟨l, vs, hle, hf, by rw [hag]⟩, f1⟩
    | false =>
      have hcell : Cell.okWide P W .any base t v := by
        cases hy : (T t).ty <;> rw [hy] at hag <;> simp [Ty.agg] at hag <;> rw [hy] at hdo <;> cases dd <;> simp only [DescOk] at hdo <;> rw [hd] at hok <;> exact hok
      have hone : v.cells = #[v] := by
        cases v with
        | agg cs =>
          unfold Cell.okWide at hcell
          split at hcell <;> try (rename_i h1; cases h1; done)
          unfold Cell.ok at hcell
          split at hcell <;> first | exact hcell.elim | (rename_i h1; cases h1; done)
        | _ => rfl
      rw [hone] at h1
      obtain ⟨vs, hr, hf⟩ := lf_of_trod hT 9 true t l hle h1 (fun _ => slOk_one hcell)
      cases hr with | cons u us x xs hu hus =>
      cases hus
      exact ⟨u :: Vs, .cons _ _ _ _ hu r1, ⟨l, [u], hle, hf, by rw [hag]⟩, f1⟩

/-- THE CONTRACT THAT A LAW's ROW ASKS. -/
theorem law_calls {T : Tab} (hT : TOk P T) (hlo : laidOutB P = true) {k : FuncId} {fn : Func} {s : ChangeSpec} {b : TypeId} {W : World} {base : Nat} {args : Array Value} {ds gs : List (DataW H)} {before : List MemPlace}
    (hvars : s.vars = []) (hspec : ∀ ds : List (DataW H), ds.length = fn.params.size → s.fn H ds = { results := [.lit (.bool true)], args := ds })
    (hres : fn.resultTypes = #[b]) (hb : P.underlying b = some .bool)
    (hread : ∀ t ∈ fn.params.toList, P.readableRec t = true ∧ t < P.types.size ∧ (lfT T true 9 t).isSome = true)
    (hval : ∀ (j : Nat) t v, fn.params[j]? = some t → args[j]? = some v → Value.okWide P W .any base t v)
    (hW : DataW.Whole enc P fn.params.toList s.vars false W args.toList ds gs before)
    (hglob : GlobOk (fun b => W.heap[b]?))
    (hpure : ∀ Vs, FitAll T fn.params.toList Vs → Pure P k Vs (fun o => o = .ret (.bool true))) :
    Calls P k args W fun e W' => ∃ v, e = .returned v ∧ s.post enc P fn false true false false W args v W' := by
  have hW' := hW
  obtain ⟨p, q, hA, hV, rfl, hfz, hnd⟩ := hW
  obtain ⟨Vs, hr, hf⟩ := fitAll_of_trod hT (fun t ht => (hread t ht).2.2) (fun j t v h1 h2 => hval j t v (by simpa using h1) (by simpa using h2)) hA
  rw [hvars] at hV
  have hgs : gs = [] ∧ q = [] := by
    cases gs with
    | nil => exact ⟨rfl, hV⟩
    | cons g r => exact absurd hV (by intro h; cases h)
  obtain ⟨rfl, rfl⟩ := hgs
  have hlt : ∀ x ∈ p ++ [], x.block < W.heap.size := fun x hx => hW'.lt x hx
  have hdl : ∀ {ts : List Nat} {vs : List Value} {ds : List (DataW H)} {p : List MemPlace}, DataW.TrodAll enc P W 0 (fun _ => true) true ts vs ds p → ds.length = ts.length := by
    intro ts
    induction ts with
    | nil => intro vs ds p h; obtain ⟨rfl, rfl, rfl⟩ := trodAll_nil h; rfl
    | cons t ts ih => intro vs ds p h; obtain ⟨v, vs1, d, ds1, a, b, rfl, rfl, rfl, h1, h2⟩ := trodAll_cons h; simp [ih h2]
  have hsp := hspec ds (by rw [hdl hA]; simp)
  refine (hpure Vs hf (fun b => W.heap[b]?) W args hglob (fun _ _ h => h) hr).mono ?_
  rintro e W' ⟨o, I', rfl, hO, _, _, _, hbel⟩
  have he : e = .returned (.bool true) := by
    cases e <;> first | exact hO.elim | skip
    cases hO; rfl
  subst he
  refine ⟨_, rfl, post_of_below (pa := p) (pv := []) hW' ?_ ?_ ?_ rfl hbel ?_⟩
  · intro b' sp hd
    rw [List.append_nil, hsp, hres]
    exact trodAll_mk1 (shut_bool hb true)
  · intro sp hsp'
    rw [List.append_nil, hsp]
    have key : ∀ {ts : List Nat} {vs : List Value} {ds : List (DataW H)} {p : List MemPlace}, (∀ t ∈ ts, P.readableRec t = true ∧ t < P.types.size) → (∀ x ∈ p, x.block < W.heap.size ∧ sp x.block = true) →
        DataW.TrodAll enc P W 0 (fun _ => true) true ts vs ds p → DataW.TrodAll enc P W' 0 sp true ts vs ds p := by
      intro ts
      induction ts with
      | nil => intro vs ds p _ _ h; obtain ⟨rfl, rfl, rfl⟩ := trodAll_nil h; exact rfl
      | cons t ts ih =>
        intro vs ds p h1 h2 h
        obtain ⟨v, vs1, d, ds1, a, b, rfl, rfl, rfl, h3, h4⟩ := trodAll_cons h
        refine ⟨a, b, ?_, ih (fun t ht => h1 t (List.mem_cons_of_mem _ ht)) (fun x hx => h2 x (by simp [hx])) h4, rfl⟩
        exact WideElems.Trod_stays hlo (h1 t (List.mem_cons_self)).1 (h1 t (List.mem_cons_self)).2 h3 (fun x hx => hbel.same (h2 x (by simp [hx])).1) (fun x hx => (h2 x (by simp [hx])).2)
    exact key (fun t ht => ⟨(hread t ht).1, (hread t ht).2.1⟩) (fun x hx => ⟨hlt x (by simp [hx]), hsp' x (by simp [hx])⟩) hA
  · intro sp _
    rw [hvars, List.append_nil, hsp]
    exact rfl
  · rw [hres]
    intro j t r h1 h2
    cases j with
    | zero =>
      simp [Value.resultList] at h1 h2
      subst h1; subst h2
      simp [Value.okWide, hb, Cell.okWide, Cell.ok]
    | succ j => simp at h1

/-- A table of integers that a listed variable holds. -/
theorem ints_of_trod {w : World} {base : Nat} {sp : Nat → Bool} {held : Bool} {t e : TypeId} {n : Nat} {k : IntKind} (ht : P.underlying t = some (.array n e)) (he : P.underlying e = some (.int k)) (hc : P.cellsOf e = 1) (hct : P.cellsOf t = n)
    {fuel : Nat} {cs : List Value} {zs : List Int} {p : List MemPlace} (h : DataW.trod enc P w base sp held fuel t cs = some (.agg (zs.map fun n => .lit (.int k n)), p)) : cs = zs.map (.int k) := by
  obtain ⟨xs, m, _, hx, hcl, hxl, hf⟩ := DataW.trod_array ht h
  rw [hc] at hf
  simp only [Prod.mk.injEq, DataW.agg.injEq] at hx
  have hzl : zs.length = xs.length := by have := congrArg List.length hx.1; simpa using this
  apply List.ext_getElem?
  intro i
  by_cases hi : i < n
  · have h1 := hf i hi
    rw [List.getElem?_eq_getElem (by omega)] at h1
    obtain ⟨v, h2, h3, _⟩ := DataW.trod_int he h1
    have h4 := congrArg (fun l => l[i]?) hx.1
    simp only [List.getElem?_map, List.getElem?_eq_getElem (show i < xs.length by omega), Option.map_some, h3] at h4
    rw [List.getElem?_eq_getElem (by omega)] at h4
    simp at h4
    have h5 : cs[i]? = some (.int k v) := by
      have := congrArg (fun l => l[0]?) h2
      simp only [Nat.mul_one, List.getElem?_take, List.getElem?_drop] at this
      simpa using this
    rw [h5, List.getElem?_map, List.getElem?_eq_getElem (by omega), h4]; rfl
  · rw [List.getElem?_eq_none (by omega), List.getElem?_eq_none (by simp; omega)]
end
end Go.Vx
/- What fits the laws' parameters: meshes, drafts, changes. -/
namespace Go.Proofs.YtkhbmendaapojaaGreatDoor
open Go Go.Vx Go.Num
set_option maxRecDepth 100000
theorem fit_int {k : IntKind} {ls : List Lf} {vs : List V} (h : FitL (.sh (.int k) :: ls) vs) : ∃ x us, vs = .int k x :: us ∧ (k.min ≤ x ∧ x ≤ k.max) ∧ FitL ls us := by
  cases vs with
  | nil => exact h.elim
  | cons v us =>
    obtain ⟨hs, hl⟩ : FitS [.int k] [v] ∧ FitL ls us := h
    cases v with
    | int k' x =>
      obtain ⟨rfl, hb, _⟩ : k' = k ∧ (k.min ≤ x ∧ x ≤ k.max) ∧ FitS [] [] := hs
      exact ⟨x, us, rfl, hb, hl⟩
    | _ => exact hs.elim
theorem fit_bool {ls : List Lf} {vs : List V} (h : FitL (.sh .bool :: ls) vs) : ∃ x us, vs = .bool x :: us ∧ FitL ls us := by
  cases vs with
  | nil => exact h.elim
  | cons v us =>
    obtain ⟨hs, hl⟩ : FitS [.bool] [v] ∧ FitL ls us := h
    cases v with
    | bool x => exact ⟨x, us, rfl, hl⟩
    | _ => exact hs.elim
theorem fit_rows {ls : List Lf} {vs : List V} (h : FitL (.sl [.int .i64, .int .i64, .int .i64] :: ls) vs) : ∃ n A us, vs = rows3 n A :: us ∧ FitL ls us := by
  cases vs with
  | nil => exact h.elim
  | cons v us =>
    obtain ⟨⟨len, gi, gb, gs, hv, _⟩, hl⟩ := h
    exact ⟨len, gi, us, by rw [hv]; rfl, hl⟩
theorem fit_bytes {ls : List Lf} {vs : List V} (h : FitL (.sl [.int .i8] :: ls) vs) : ∃ (n : Nat) (g : Nat → Int) (us : List V), vs = .ro 1 n (fun i => [.int .i8 (g i)]) :: us ∧ FitL ls us := by
  cases vs with
  | nil => exact h.elim
  | cons v us =>
    obtain ⟨⟨len, gi, gb, gs, hv, _⟩, hl⟩ := h
    exact ⟨len, fun i => gi i 0, us, by rw [hv]; rfl, hl⟩
theorem fit_nil {vs : List V} (h : FitL [] vs) : vs = [] := by
  cases vs with
  | nil => rfl
  | cons => exact h.elim
theorem fit_mesh {v : V} (h : FitV Tryz.tab 24 v) : ∃ np P nf F, v = meshV np P nf F := by
  obtain ⟨l, vs, hl, hf, hv⟩ := h
  rw [show lfT Tryz.tab true 9 24 = some [.sl [.int .i64, .int .i64, .int .i64], .sl [.int .i64, .int .i64, .int .i64]] by kernel_rfl] at hl
  cases hl
  rw [show (Tryz.tab 24).ty.agg = true by kernel_rfl] at hv
  obtain ⟨np, P, us, rfl, hf1⟩ := fit_rows hf
  obtain ⟨nf, F, us, rfl, hf2⟩ := fit_rows hf1
  obtain rfl := fit_nil hf2
  exact ⟨np, P, nf, F, hv⟩
theorem fit_draft {v : V} (h : FitV Tryz.tab 29 v) : ∃ kd sz a0 a1 a2 m g tu, (0 ≤ kd ∧ kd ≤ 255) ∧ v = draftV kd sz a0 a1 a2 m g tu := by
  obtain ⟨l, vs, hl, hf, hv⟩ := h
  rw [show lfT Tryz.tab true 9 29 = some [.sh (.int .u8), .sh (.int .u8), .sh (.int .i16), .sh (.int .i16), .sh (.int .i16), .sl [.int .i8], .sh .bool] by kernel_rfl] at hl
  cases hl
  rw [show (Tryz.tab 29).ty.agg = true by kernel_rfl] at hv
  obtain ⟨kd, us, rfl, hk, hf1⟩ := fit_int hf
  obtain ⟨sz, us, rfl, _, hf2⟩ := fit_int hf1
  obtain ⟨a0, us, rfl, _, hf3⟩ := fit_int hf2
  obtain ⟨a1, us, rfl, _, hf4⟩ := fit_int hf3
  obtain ⟨a2, us, rfl, _, hf5⟩ := fit_int hf4
  obtain ⟨m, g, us, rfl, hf6⟩ := fit_bytes hf5
  obtain ⟨tu, us, rfl, hf7⟩ := fit_bool hf6
  obtain rfl := fit_nil hf7
  exact ⟨kd, sz, a0, a1, a2, m, g, tu, hk, hv⟩
theorem fit_bends {v : V} (h : FitV Tryz.tab 32 v) : ∃ w a t n w' a' t' n', (0 ≤ a ∧ a ≤ 255) ∧ (0 ≤ t ∧ t ≤ 255) ∧ (0 ≤ a' ∧ a' ≤ 255) ∧ (0 ≤ t' ∧ t' ≤ 255) ∧ v = .agg (bendV w a t n ++ bendV w' a' t' n') := by
  obtain ⟨l, vs, hl, hf, hv⟩ := h
  rw [show lfT Tryz.tab true 9 32 = some [.sh (.int .u8), .sh (.int .u8), .sh (.int .u8), .sh (.int .i64), .sh (.int .u8), .sh (.int .u8), .sh (.int .u8), .sh (.int .i64)] by kernel_rfl] at hl
  cases hl
  rw [show (Tryz.tab 32).ty.agg = true by kernel_rfl] at hv
  obtain ⟨w, us, rfl, _, hf1⟩ := fit_int hf
  obtain ⟨a, us, rfl, ha, hf2⟩ := fit_int hf1
  obtain ⟨t, us, rfl, ht, hf3⟩ := fit_int hf2
  obtain ⟨n, us, rfl, _, hf4⟩ := fit_int hf3
  obtain ⟨w', us, rfl, _, hf5⟩ := fit_int hf4
  obtain ⟨a', us, rfl, ha', hf6⟩ := fit_int hf5
  obtain ⟨t', us, rfl, ht', hf7⟩ := fit_int hf6
  obtain ⟨n', us, rfl, _, hf8⟩ := fit_int hf7
  obtain rfl := fit_nil hf8
  exact ⟨w, a, t, n, w', a', t', n', ha, ht, ha', ht', hv⟩
end Go.Proofs.YtkhbmendaapojaaGreatDoor
/- What this seat's laws share: the variables that are listed, a start that fits. Printed by a program. -/
namespace Go.Proofs.YtkhbmendaapojaaGreatDoor
open Go Go.Vx Go.ChangeShapes Go.WideShapes Go.RowKit
set_option maxRecDepth 100000
theorem own0 : ownKnob Tryz.prog.godebug = none := by kernel_rfl
theorem laidOut0 : laidOutB Tryz.prog = true := by kernel_rfl
theorem plain0 {W : World} (h : laidMetH Tryz.prog [("math/bits.deBruijn32tab", Rows.laid_math_bits_deBruijn32tab), ("math/bits.deBruijn64tab", Rows.laid_math_bits_deBruijn64tab), ("internal/strconv.uint64pow10", Rows.laid_internal_strconv_uint64pow10), ("strconv.ErrRange", Rows.laid_strconv_ErrRange), ("strconv.ErrSyntax", Rows.laid_strconv_ErrSyntax)] W) : laidMet Tryz.prog [("math/bits.deBruijn32tab", Rows.laid_math_bits_deBruijn32tab), ("math/bits.deBruijn64tab", Rows.laid_math_bits_deBruijn64tab), ("internal/strconv.uint64pow10", Rows.laid_internal_strconv_uint64pow10), ("strconv.ErrRange", Rows.laid_strconv_ErrRange), ("strconv.ErrSyntax", Rows.laid_strconv_ErrSyntax)] W := by
  rw [MakeChecks.laidMetH_plain _ _ _ (by kernel_rfl)] at h; exact h
theorem glob0 {W : World} (h : laidMetH Tryz.prog [("math/bits.deBruijn32tab", Rows.laid_math_bits_deBruijn32tab), ("math/bits.deBruijn64tab", Rows.laid_math_bits_deBruijn64tab), ("internal/strconv.uint64pow10", Rows.laid_internal_strconv_uint64pow10), ("strconv.ErrRange", Rows.laid_strconv_ErrRange), ("strconv.ErrSyntax", Rows.laid_strconv_ErrSyntax)] W) : GlobOk (fun b => W.heap[b]?) := by
  obtain ⟨ps, ⟨g0, t0, cs0, f0, p0, q0, hg0, ht0, hv0, hd0, ⟨g1, t1, cs1, f1, p1, q1, hg1, ht1, hv1, hd1, ⟨g2, t2, cs2, f2, p2, q2, hg2, ht2, hv2, hd2, ⟨g3, t3, cs3, f3, p3, q3, hg3, ht3, hv3, hd3, ⟨g4, t4, cs4, f4, p4, q4, hg4, ht4, hv4, hd4, _, _⟩, _⟩, _⟩, _⟩, _⟩, _, _⟩ := plain0 h
  intro p hp
  obtain rfl := List.mem_singleton.1 hp
  obtain rfl := Option.some.inj ((show Tryz.prog.globalNamed "internal/strconv.uint64pow10" = some 2 by kernel_rfl).symm.trans hg2)
  obtain rfl := Option.some.inj ((show (Tryz.prog.globals[2]?).map (·.type) = some 177 by kernel_rfl).symm.trans ht2)
  have hcs := ints_of_trod (zs := [1, 10, 100, 1000, 10000, 100000, 1000000, 10000000, 100000000, 1000000000, 10000000000, 100000000000, 1000000000000, 10000000000000, 100000000000000, 1000000000000000, 10000000000000000, 100000000000000000, 1000000000000000000, 10000000000000000000]) Tryz.underlying177 Tryz.underlying133 (by kernel_rfl) (by kernel_rfl) hd2
  simp only [World.var?, hg2, Option.bind_some] at hv2
  split at hv2
  · rename_i cs el fz hh
    cases hv2
    refine ⟨el, fz, ?_⟩
    show W.heap[2]? = _
    rw [hh]
    congr 2
    apply Array.ext'
    rw [hcs]; rfl
  · cases hv2
theorem door0 (os : Os) (args : Array Value) : laidMetH Tryz.prog [("math/bits.deBruijn32tab", Rows.laid_math_bits_deBruijn32tab), ("math/bits.deBruijn64tab", Rows.laid_math_bits_deBruijn64tab), ("internal/strconv.uint64pow10", Rows.laid_internal_strconv_uint64pow10), ("strconv.ErrRange", Rows.laid_strconv_ErrRange), ("strconv.ErrSyntax", Rows.laid_strconv_ErrSyntax)] ((World.doorLaid Tryz.prog 400 os).forCall (fun _ _ => 0) ⟨#[], args, []⟩).memory :=
  laidMetH_of_parts3 (fuel := 8) (laidMet_of_run' 8 (by kernel_rfl) (by kernel_rfl)) (by kernel_rfl) (by kernel_rfl)
theorem shaped0 (os : Os) (args : Array Value) : ((World.doorLaid Tryz.prog 400 os).forCall (fun _ _ => 0) ⟨#[], args, []⟩).Shaped Tryz.prog := World.shaped_of_RefB (by kernel_rfl) (by kernel_rfl)
end Go.Proofs.YtkhbmendaapojaaGreatDoor
