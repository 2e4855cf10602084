/- Slicing, new memory, lengths, conversions; all plain operations in one function, and that the model does what it says. append, and slices of plain elements written out. -/
import Derived.Test.YtkhbmendaapojaaGreatDoorPkBa2
import Derived.IntWalk
import Derived.Deep.AppendSrc
set_option linter.unusedSimpArgs false
set_option linter.unusedVariables false
/- Slicing, new memory, lengths, conversions; all plain operations in one function, and that the model does what it says. -/
namespace Go.Vx
open Go Go.RowKit

/-- A slice's bound: the number, or what stands for it. -/
def bnd : Option V → Int → Option Int
  | none, d => some d
  | some (.int _ n), _ => some n
  | _, _ => none

def sliceV (T : Tab) (t : Nat) (x : V) (lo hi mx : Option V) : PR :=
  match mx with
  | some _ => .bad
  | none =>
    match (T t).ty, x with
    | .str, .str l => match bnd lo 0, bnd hi (l.length : Int) with
      | some a, some b => .grd (decide (0 ≤ a) && (decide (a ≤ b) && decide (b ≤ (l.length : Int)))) (.val (.str ((l.take b.toNat).drop a.toNat)))
      | _, _ => .bad
    | .slice e, .sl t sz off len cap => match (T e).ty.known, natEq sz (T e).size, bnd lo 0, bnd hi (len : Int) with
      | true, true, some a, some b => .grd (decide (0 ≤ a) && (decide (a ≤ b) && decide (b ≤ (len : Int)))) (.val (.sl t sz (off + a.toNat) (b.toNat - a.toNat) (cap - a.toNat)))
      | _, _, _, _ => .bad
    | .slice e, .ro sz len f => match (T e).ty.known, natEq sz (T e).size, bnd lo 0, bnd hi (len : Int) with
      | true, true, some a, some b => .grd (decide (0 ≤ a) && (decide (a ≤ b) && decide (b ≤ (len : Int)))) (.val (.ro sz (b.toNat - a.toNat) (fun i => f (a.toNat + i))))
      | _, _, _, _ => .bad
    | .slice e, .slf t esz off len cap => match (T e).ty.known, natEq esz (T e).size, bnd lo 0, bnd hi (len : Int) with
      | true, true, some a, some b => .grd (decide (0 ≤ a) && (decide (a ≤ b) && decide (b ≤ (len : Int)))) (.val (.slf t esz (off + a.toNat * esz) (b.toNat - a.toNat) (cap - a.toNat)))
      | _, _, _, _ => .bad
    | _, _ => .bad

theorem guard3 {a b n : Int} (h : (decide (0 ≤ a) && (decide (a ≤ b) && decide (b ≤ n))) = true) : 0 ≤ a ∧ a ≤ b ∧ b ≤ n := by simpa using h

theorem run_bound {P : Program} {w : World} {k : IntKind} {n : Int} {y : Nat} {code : BoundsCode} (h : 0 ≤ n ∧ n ≤ y) : (Instr.sliceBound (.int k n) y code).run P w = .ok n.toNat w := by
  simp only [Instr.sliceBound, asIntOf, Sem.run_bind, Sem.run_pure, Result.andThen_ok, h.1, h.2, and_self, if_true]

theorem run_bounds {P : Program} {w : World} {ρ I} {isSl : Bool} {ln cp : Nat} {lo hi : Option V} {xlo xhi : Option Value} {a b : Int}
    (hlo : match lo, xlo with | none, none => True | some u, some x => Rel ρ I u x | _, _ => False) (hhi : match hi, xhi with | none, none => True | some u, some x => Rel ρ I u x | _, _ => False)
    (ha : bnd lo 0 = some a) (hb : bnd hi (ln : Int) = some b) (h : 0 ≤ a ∧ a ≤ b ∧ b ≤ (ln : Int)) (hlc : ln ≤ cp) :
    (Instr.sliceBounds isSl ln cp xlo xhi none).run P w = .ok (a.toNat, b.toNat, cp) w := by
  have h1 : (∀ x, xhi = some x → ∀ code, (Instr.sliceBound x cp code).run P w = .ok b.toNat w) ∧ (xhi = none → ln = b.toNat) := by
    cases hi with
    | none => cases xhi with
      | none => simp [bnd] at hb; subst hb; exact ⟨by simp, by simp⟩
      | some => exact hhi.elim
    | some u => cases xhi with
      | none => exact hhi.elim
      | some x =>
        cases u <;> simp [bnd] at hb
        subst hb; cases hhi
        exact ⟨fun x hx code => by cases hx; exact run_bound ⟨by omega, by omega⟩, fun h => by cases h⟩
  have h2 : (∀ x, xlo = some x → ∀ code, (Instr.sliceBound x b.toNat code).run P w = .ok a.toNat w) ∧ (xlo = none → 0 = a.toNat) := by
    cases lo with
    | none => cases xlo with
      | none => simp [bnd] at ha; subst ha; exact ⟨by simp, by simp⟩
      | some => exact hlo.elim
    | some u => cases xlo with
      | none => exact hlo.elim
      | some x =>
        cases u <;> simp [bnd] at ha
        subst ha; cases hlo
        exact ⟨fun x hx code => by cases hx; exact run_bound ⟨by omega, by omega⟩, fun h => by cases h⟩
  clear hlo hhi
  unfold Instr.sliceBounds
  cases xhi with
  | none =>
    have e1 := h1.2 rfl
    cases xlo with
    | none => have e2 := h2.2 rfl; simp only [Sem.run_bind, Sem.run_pure, Result.andThen_ok]; rw [← e1, ← e2]
    | some x => have e2 := h2.1 x rfl; simp only [Sem.run_bind, Sem.run_pure, Result.andThen_ok, e1, e2]
  | some y =>
    have e1 := h1.1 y rfl
    cases xlo with
    | none => have e2 := h2.2 rfl; simp only [Sem.run_bind, Sem.run_pure, Result.andThen_ok, e1]; rw [← e2]
    | some x => have e2 := h2.1 x rfl; simp only [Sem.run_bind, Sem.run_pure, Result.andThen_ok, e1, e2]

set_option maxHeartbeats 1000000 in
theorem slice_ok {P : Program} {T : Tab} (hT : TOk P T) {ρ I L} {w : World} {t : Nat} {u : V} {x : Value} {lo hi mx : Option V} {xlo xhi xmx : Option Value} (hu : Rel ρ I u x)
    (hlo : match lo, xlo with | none, none => True | some u, some x => Rel ρ I u x | _, _ => False) (hhi : match hi, xhi with | none, none => True | some u, some x => Rel ρ I u x | _, _ => False)
    (hmx : match mx, xmx with | none, none => True | some u, some x => Rel ρ I u x | _, _ => False) (s : Sem Next)
    (hs : s.run P w = ((Instr.sliceAt t x xlo xhi xmx).run P w).andThen fun v w' => .ok (.value v) w') : (sliceV T t u lo hi mx).Ok P ρ I L w s := by
  unfold sliceV
  split <;> try trivial
  have hmx' : xmx = none := by cases xmx with | none => rfl | some => exact hmx.elim
  subst hmx'
  split <;> try trivial
  all_goals rename_i hty
  all_goals have hk : (T t).ty.known = true := by rw [hty]; rfl
  all_goals obtain ⟨d, hd, hdo⟩ := under hT hk
  all_goals rw [hty] at hdo
  all_goals (cases d <;> simp [DescOk] at hdo)
  · split <;> try trivial
    rename_i l _ a b ha hb
    intro hc
    have h := guard3 hc
    cases hu; rename_i sb hsb
    subst hsb
    have hsz : sb.size = sb.data.toList.length := (Array.length_toList).symm
    have hr := run_bounds (P := P) (w := w) (isSl := false) (cp := sb.size) hlo hhi ha (by rw [hsz]; exact hb) (by rw [hsz]; exact h) (Nat.le_refl _)
    refine ⟨.string (sb.extract a.toNat b.toNat), .str _ _ ?_, .inl ?_⟩
    · simp [List.extract_eq_take_drop]
      rw [List.drop_take]
    · rw [hs]
      simp only [Instr.sliceAt, Instr.slice, Sem.run_bind, run_underlying hd, Result.andThen_ok, Option.isSome_none, Bool.false_eq_true, if_false, Sem.run_ite, Sem.run_pure, hr]
  · rename_i e b' sz off ln cp _
    subst hdo
    split <;> try trivial
    rename_i a b hke hsz ha hb
    intro hc
    have h := guard3 hc
    cases hu with
    | slNil =>
      have hr := run_bounds (P := P) (w := w) (isSl := true) (cp := 0) hlo hhi ha hb h (Nat.le_refl _)
      have ha0 : a.toNat = 0 := by omega
      have hb0 : b.toNat = 0 := by omega
      refine ⟨.slice none 0 0, ?_, .inl ?_⟩
      · rw [ha0, hb0]; exact .slNil _ _ _
      · rw [hs]
        simp only [Instr.sliceAt, Instr.slice, Sem.run_bind, run_underlying hd, Result.andThen_ok, Sem.run_pure, hr, run_sizeOf hT hke, Option.map_none]
        simp [ha0, hb0]
    | sl _ _ _ _ _ cp' te o hρ hz hl hlc hcc hcm ho =>
    have hr := run_bounds (P := P) (w := w) (isSl := true) (cp := cp') hlo hhi ha hb h (Nat.le_trans hlc hcc)
    have hsz' := natEq_eq hsz
    refine ⟨.slice (some (if cp' = a.toNat then ⟨te.b, o, none⟩ else ⟨te.b, o + a.toNat * sz, none⟩)) (b.toNat - a.toNat) (cp' - a.toNat), ?_, .inl ?_⟩
    · by_cases hca : cp' = a.toNat
      · rw [if_pos hca]
        exact .sl _ _ _ _ _ _ te o hρ hz (by omega) (by omega) (by omega) (by omega) (fun h0 => by omega)
      · rw [if_neg hca]
        refine .sl _ _ _ _ _ _ te _ hρ hz (by omega) (by omega) (by omega) (by omega) (fun h0 => ?_)
        rw [ho (by omega), hz, Nat.add_mul, Nat.add_assoc]
    · rw [hs]
      simp only [Instr.sliceAt, Instr.slice, Sem.run_bind, run_underlying hd, Result.andThen_ok, Sem.run_pure, hr, run_sizeOf hT hke, ← hsz', Option.map_some, addr_add]
      by_cases hca : cp' = a.toNat <;> simp [hca]
  · rename_i e sz ln f _
    subst hdo
    split <;> try trivial
    rename_i a b hke hsz ha hb
    intro hc
    have h := guard3 hc
    cases hu with
    | roNil =>
      have hr := run_bounds (P := P) (w := w) (isSl := true) (cp := 0) hlo hhi ha hb h (Nat.le_refl _)
      have ha0 : a.toNat = 0 := by omega
      have hb0 : b.toNat = 0 := by omega
      refine ⟨.slice none 0 0, ?_, .inl ?_⟩
      · rw [ha0, hb0]; exact .roNil _ _
      · rw [hs]
        simp only [Instr.sliceAt, Instr.slice, Sem.run_bind, run_underlying hd, Result.andThen_ok, Sem.run_pure, hr, run_sizeOf hT hke, ha0, hb0]
        simp
    | ro _ _ _ bb o cap arr el fz hI hcc hs' hr' =>
      have hr := run_bounds (P := P) (w := w) (isSl := true) (cp := cap) hlo hhi ha hb h hcc
      have hsz' := natEq_eq hsz
      refine ⟨.slice (some (if cap = a.toNat then ⟨bb, o, none⟩ else ⟨bb, o + a.toNat * sz, none⟩)) (b.toNat - a.toNat) (cap - a.toNat), ?_, .inl ?_⟩
      · by_cases hca : cap = a.toNat
        · rw [if_pos hca]
          exact .ro _ _ _ bb o _ arr el fz hI (by omega) (fun i hi => by omega) (fun i hi => by omega)
        · rw [if_neg hca]
          refine .ro _ _ _ bb _ _ arr el fz hI (by omega) (fun i hi => hs' _ (by omega)) (fun i hi => ?_)
          have := hr' (a.toNat + i) (by omega)
          rw [Nat.add_mul, ← Nat.add_assoc] at this
          exact this
      · rw [hs]
        simp only [Instr.sliceAt, Instr.slice, Sem.run_bind, run_underlying hd, Result.andThen_ok, Sem.run_pure, hr, run_sizeOf hT hke, ← hsz', Option.map_some, addr_add]
        by_cases hca : cap = a.toNat <;> simp [hca]
  · rename_i e b' esz off ln cp _
    subst hdo
    split <;> try trivial
    rename_i a b hke hsz ha hb
    intro hc
    have h := guard3 hc
    cases hu with | slf _ _ _ _ _ te o hρ hn hlc hcm ho =>
    have hr := run_bounds (P := P) (w := w) (isSl := true) (cp := cp) hlo hhi ha hb h hlc
    have hsz' := natEq_eq hsz
    have hmul : a.toNat * esz + (cp - a.toNat) * esz = cp * esz := by rw [← Nat.add_mul]; congr 1; omega
    refine ⟨.slice (some (if cp = a.toNat then ⟨te.b, o, none⟩ else ⟨te.b, o + a.toNat * esz, none⟩)) (b.toNat - a.toNat) (cp - a.toNat), ?_, .inl ?_⟩
    · by_cases hca : cp = a.toNat
      · rw [if_pos hca]
        exact .slf _ _ _ _ _ te o hρ hn (by omega) (by omega) (fun h0 => by omega)
      · rw [if_neg hca]
        refine .slf _ _ _ _ _ te _ hρ hn (by omega) (by omega) (fun h0 => ?_)
        rw [ho (by omega), Nat.add_assoc]
    · rw [hs]
      simp only [Instr.sliceAt, Instr.slice, Sem.run_bind, run_underlying hd, Result.andThen_ok, Sem.run_pure, hr, run_sizeOf hT hke, ← hsz', Option.map_some, addr_add]
      by_cases hca : cp = a.toNat <;> simp [hca]

/-- An array's address sliced. -/
def sliceArrV (T : Tab) (t : Nat) (x : V) (lo hi mx : Option V) : PR :=
  match mx with
  | some _ => .bad
  | none =>
    match (T t).ty, x with
    | .array n e, .ptr b 0 sub => match (T e).ty.known, bnd lo 0, bnd hi (n : Int) with
      | true, some a, some h => .grd (decide (0 ≤ a) && (decide (a ≤ h) && decide (h ≤ (n : Int)))) (.val (.slf b (T e).size (sub + a.toNat * (T e).size) (h.toNat - a.toNat) (n - a.toNat)))
      | _, _, _ => .bad
    | _, _ => .bad

/-! ### New memory -/
theorem run_newVar {P : Program} {w : World} {t : Nat} {v : Value} : (newVar t v).run P w = .ok ⟨w.heap.size, 0, none⟩ (w.alloc (.cells v.cells t)) := by
  simp [newVar, newRow]

theorem fixRel {ρ ρ' I} {w : World} {cs : List V} {xs : Array Value} {t : Nat} (hρ : TEs.le ρ ρ') (h : Rels ρ I cs xs.toList) :
    BRel ρ' I ⟨w.heap.size, 0, cs.length, 1, 1⟩ (.fix t cs) (.cells xs t (0, 0)) := by
  have hl := h.length
  simp at hl
  refine ⟨⟨xs, t, rfl, Nat.le_refl _, by simp; omega, fun i hi => ⟨rfl, ?_⟩⟩, rfl, rfl, xs, rfl, hl.symm⟩
  have hi0 : i = 0 := by simp at hi; exact hi
  subst hi0
  have := h.mono hρ (Imm.le_refl I)
  simpa [hl, cellsOf, List.take_of_length_le] using this

theorem last_get {ρ : List (Option TE)} {L : List Blk} (h : ρ.length = L.length) (te : TE) : (ρ ++ [some te])[L.length]? = some te := by
  rw [← h]; simp

def newFix (e : Nat) (cs : List V) (v : Nat → V) : PR := .new (.fix e cs) 1 1 (len cs) v

/-- The plain shape of an element's cells, if they are all zeros of numbers, truth values and texts. -/
def shOf : List V → Option (List Sh)
  | [] => some []
  | .int k n :: l => match n, shOf l with
    | .ofNat 0, some r => some (.int k :: r)
    | _, _ => none
  | .bool false :: l => match shOf l with
    | some r => some (.bool :: r)
    | none => none
  | .str [] :: l => match shOf l with
    | some r => some (.str :: r)
    | none => none
  | _ => none
theorem shOf_eq : ∀ {l : List V} {sh : List Sh} (c : Nat), shOf l = some sh → shV sh (fun _ => 0) (fun _ => false) (fun _ => []) c = l
  | [], sh, c, h => by simp [shOf] at h; subst h; rfl
  | v :: l, sh, c, h => by
    unfold shOf at h
    split at h
    · simp_all
    · rename_i k n l' heq
      cases heq
      split at h
      · rename_i r hr; cases h; simp [shV, shOf_eq (c + 1) hr]
      · cases h
    · rename_i l' heq
      cases heq
      split at h
      · rename_i r hr; cases h; simp [shV, shOf_eq (c + 1) hr]
      · cases h
    · rename_i l' heq
      cases heq
      split at h
      · rename_i r hr; cases h; simp [shV, shOf_eq (c + 1) hr]
      · cases h
    · cases h

def makeSliceV (T : Tab) (t : Nat) (l c : V) : PR :=
  match (T t).ty, l, c with
  | .slice e, .int _ n, .int _ m => match (T e).ty.known, (T e).size, shOf (T e).zero with
    | true, sz + 1, some sh => .grd (decide (0 ≤ n) && (decide (n ≤ m) && (decide ((T e).bytes * m ≤ 281474976710656) && decide (m ≤ 281474976710656))))
        (.new (.arr e sh (fun _ _ => 0) (fun _ _ => false) (fun _ _ => [])) m.toNat m.toNat (sz + 1) (fun tg => .sl tg (sz + 1) 0 n.toNat m.toNat))
    | _, _, _ => .bad
  | _, _, _ => .bad

theorem zeroRow {zero : Array Value} (i n sz : Nat) (hz : zero.size = sz) (hi : i < n) (h0 : 0 < sz) :
    ((((Array.range (n * sz)).map (fun j => zero[j % zero.size]!)).toList.drop (i * sz)).take sz) = zero.toList := by
  have hle : (i + 1) * sz ≤ n * sz := Nat.mul_le_mul_right _ hi
  rw [Nat.add_mul, Nat.one_mul] at hle
  apply List.ext_getElem?
  intro j
  simp only [Array.toList_map, Array.toList_range, List.getElem?_take, List.getElem?_drop, List.getElem?_map]
  by_cases hj : j < sz
  · rw [if_pos hj, List.getElem?_range (by omega)]
    have : (i * sz + j) % zero.size = j := by rw [hz, Nat.add_comm, Nat.add_mul_mod_self_right, Nat.mod_eq_of_lt hj]
    simp only [Option.map_some, this]
    have hjz : j < zero.size := by omega
    simp [hjz]
  · rw [if_neg hj, List.getElem?_eq_none (by simp; omega)]

theorem makeSlice_ok {P : Program} {T : Tab} (hT : TOk P T) {ρ I L} {w : World} (hlen : ρ.length = L.length) {t : Nat} {u v : V} {x y : Value} (hu : Rel ρ I u x) (hv : Rel ρ I v y) (s : Sem Next)
    (hs : s.run P w = ((Instr.makeSlice t x y).run P w).andThen fun v w' => .ok (.value v) w') : (makeSliceV T t u v).Ok P ρ I L w s := by
  unfold makeSliceV
  split <;> try trivial
  rename_i e k n k' m hty
  split <;> try trivial
  rename_i sz sh hke hsz hsh
  intro hc
  simp only [Bool.and_eq_true, decide_eq_true_eq] at hc
  obtain ⟨h1, h2, h3, h4⟩ := hc
  have hk : (T t).ty.known = true := by rw [hty]; rfl
  obtain ⟨d, hd, hdo⟩ := under hT hk
  rw [hty] at hdo
  cases d <;> simp [DescOk] at hdo
  subst hdo
  cases hu; cases hv
  rename_i e
  obtain ⟨ie, de, g1, g2, g3, g4, g5, ⟨z, g6, hzl, g7⟩, _⟩ := (hT.ok hke).ex
  rw [hsz] at hzl g3
  have hn0 : 0 ≤ m := Int.le_trans h1 h2
  have hw1 : IntKind.i64.wrap n = n := IntWalk.i64_in n ⟨by omega, by omega⟩
  have hw2 : IntKind.i64.wrap m = m := IntWalk.i64_in m ⟨by omega, by omega⟩
  refine ⟨.cells ((Array.range (m.toNat * (sz + 1))).map (fun j => z.cells[j % z.cells.size]!)) e (0, 0), .slice (some ⟨w.heap.size, 0, none⟩) n.toNat m.toNat, .inl ?_, fun ρ' t' hρ' ht' => ⟨?_, ?_⟩⟩
  rotate_left
  · refine ⟨⟨_, e, rfl, Nat.le_refl _, by simp, fun i hi => ⟨?_, ?_⟩⟩, _, rfl⟩
    · have a2 : (T e).zero.length = sh.length := by rw [← shOf_eq 0 hsh, shV_length]
      have a1 := (g7 ρ I).length
      simp only [cellsOf, shV_length]; simp at a1; omega
    · simp only [Nat.zero_add]
      rw [zeroRow i m.toNat (sz + 1) hzl hi (by omega)]
      have := g7 ρ' I
      simpa [cellsOf, shOf_eq 0 hsh] using this
  · exact .sl _ _ _ _ _ m.toNat ⟨w.heap.size, 0, sz + 1, m.toNat, m.toNat⟩ 0 ht' rfl (by simp; omega) (by omega) (Nat.le_refl _) (by simp) (fun _ => by simp)
  · rw [hs]
    have hb : ie.bytes = (T e).bytes := g4
    have t1 : ¬ (m < 0 ∨ (ie.bytes : Int) * m > 2 ^ 48) := by rw [hb]; omega
    simp only [Instr.makeSlice, Sem.run_bind, run_underlying hd, Result.andThen_ok, asInt, asIntOf, Sem.run_pure, run_typeInfo g1, hw1, hw2]
    rw [if_neg (by simp only [Bool.or_eq_true, decide_eq_true_eq]; omega)]
    simp only [Sem.run_bind, run_askRoom, Result.andThen_ok, sizeOf, run_typeInfo g1, Sem.run_pure, g3, zeroValue, g6, Sem.run_ite]
    by_cases hz0 : m.toNat * (sz + 1) = 0
    · simp [hz0, newRow, show Array.range 0 = #[] from by simp [Array.range]]
    · simp [hz0, newRow]

end Go.Vx
/- append, and slices of plain elements written out. -/
namespace Go.Vx
open Go Go.RowKit

theorem shV_rel {ρ I J} {sh : List Sh} {gi : Nat → Int} {gb : Nat → Bool} {gs : Nat → List UInt8} {c : Nat} {xs : List Value} (h : Rels ρ I (shV sh gi gb gs c) xs) : Rels [] J (shV sh gi gb gs c) xs := by
  induction sh generalizing c xs with
  | nil => cases h; exact .nil
  | cons s sh ih =>
    cases s <;> (simp only [shV] at h ⊢; cases h with | cons _ _ x xs h hs => refine .cons _ _ _ _ ?_ (ih hs); cases h <;> constructor <;> assumption)
theorem shV_one {ρ I} {sh : List Sh} {gi : Nat → Int} {gb : Nat → Bool} {gs : Nat → List UInt8} : ∀ {c : Nat} {xs : List Value}, Rels ρ I (shV sh gi gb gs c) xs → ∀ x ∈ xs, x.oneCell' = true := by
  induction sh with
  | nil => intro c xs h x hx; cases h; simp at hx
  | cons s sh ih =>
    intro c xs h x hx
    cases s <;> (simp only [shV] at h; cases h with | cons _ _ y ys h hs => ?_) <;> (rcases List.mem_cons.1 hx with rfl | hx) <;> first | exact h.one rfl | exact ih hs x hx
theorem shV_congr {sh : List Sh} {gi gi' : Nat → Int} {gb gb' : Nat → Bool} {gs gs' : Nat → List UInt8} : ∀ {c c' : Nat}, (∀ j, j < sh.length → gi (c + j) = gi' (c' + j) ∧ gb (c + j) = gb' (c' + j) ∧ gs (c + j) = gs' (c' + j)) → shV sh gi gb gs c = shV sh gi' gb' gs' c' := by
  induction sh with
  | nil => intros; rfl
  | cons s sh ih =>
    intro c c' h
    have h0 := h 0 (by simp)
    simp only [Nat.add_zero] at h0
    have ht := ih (c := c + 1) (c' := c' + 1) fun j hj => by
      have := h (j + 1) (by simp; omega)
      rw [show c + 1 + j = c + (j + 1) by omega, show c' + 1 + j = c' + (j + 1) by omega]; exact this
    cases s <;> simp only [shV, h0, ht]

/-! ### Rows of plain cells -/
def cInt : V → Int
  | .int _ n => n
  | _ => 0
def cBool : V → Bool
  | .bool b => b
  | _ => false
def cStr : V → List UInt8
  | .str l => l
  | _ => []
def rowOk : List Sh → List V → Bool
  | [], [] => true
  | .int k :: s, .int k' _ :: r => match ikEq k' k with
    | true => rowOk s r
    | false => false
  | .bool :: s, .bool _ :: r => rowOk s r
  | .str :: s, .str _ :: r => rowOk s r
  | _, _ => false
theorem row_sh : ∀ {sh : List Sh} {row pre : List V}, rowOk sh row = true → shV sh (fun c => cInt (nthV (pre ++ row) c)) (fun c => cBool (nthV (pre ++ row) c)) (fun c => cStr (nthV (pre ++ row) c)) pre.length = row
  | [], [], _, _ => rfl
  | [], _ :: _, _, h => by simp [rowOk] at h
  | s :: sh, [], pre, h => by cases s <;> simp [rowOk] at h
  | s :: sh, v :: row, pre, h => by
    have hv : nthV (pre ++ v :: row) pre.length = v := by simp [nthV, nth_eq]
    have ih : ∀ (h : rowOk sh row = true), shV sh (fun c => cInt (nthV (pre ++ v :: row) c)) (fun c => cBool (nthV (pre ++ v :: row) c)) (fun c => cStr (nthV (pre ++ v :: row) c)) (pre.length + 1) = row := by
      intro h
      have := row_sh (pre := pre ++ [v]) h
      simpa using this
    cases s <;> cases v <;> simp only [rowOk] at h <;> first | (cases h; done) | skip
    · split at h
      · rename_i hk; have := ikEq_eq hk; subst this
        simp only [shV, hv, ih h]; rfl
      · cases h
    · simp only [shV, hv, ih h]; rfl
    · simp only [shV, hv, ih h]; rfl
theorem row_at {sh : List Sh} {cs : List V} {a : Nat} (h : rowOk sh ((cs.drop a).take sh.length) = true) :
    shV sh (fun c => cInt (nthV cs (a + c))) (fun c => cBool (nthV cs (a + c))) (fun c => cStr (nthV cs (a + c))) 0 = (cs.drop a).take sh.length := by
  have h1 := row_sh (pre := []) h
  simp only [List.nil_append, List.length_nil] at h1
  refine Eq.trans (shV_congr fun j hj => ?_) h1
  have : nthV ((cs.drop a).take sh.length) (0 + j) = nthV cs (a + (0 + j)) := by
    simp only [nthV, nth_eq, List.getElem?_take, List.getElem?_drop, Nat.zero_add, hj, if_true]
  rw [this]
  exact ⟨rfl, rfl, rfl⟩

def shEq : List Sh → List Sh → Bool
  | [], [] => true
  | .int k :: s, .int k' :: r => match ikEq k' k with
    | true => shEq s r
    | false => false
  | .bool :: s, .bool :: r => shEq s r
  | .str :: s, .str :: r => shEq s r
  | _, _ => false
theorem shEq_eq : ∀ {s r : List Sh}, shEq s r = true → s = r
  | [], [], _ => rfl
  | [], _ :: _, h => by simp [shEq] at h
  | a :: s, [], h => by cases a <;> simp [shEq] at h
  | a :: s, b :: r, h => by
    cases a <;> cases b <;> simp only [shEq] at h <;> first | (cases h; done) | skip
    · split at h
      · rename_i hk; have := ikEq_eq hk; subst this; rw [shEq_eq h]
      · cases h
    · rw [shEq_eq h]
    · rw [shEq_eq h]

/-! ### What is appended -/
structure News where
  m : Nat
  gi : Nat → Nat → Int
  gb : Nat → Nat → Bool
  gs : Nat → Nat → List UInt8
  p : Option Prop

def newsOf (L : List Blk) (sh : List Sh) (sz : Nat) (v : V) : Option News :=
  match v with
  | .nilSl => some ⟨0, fun _ _ => 0, fun _ _ => false, fun _ _ => [], none⟩
  | .sl t z off len _ => match natEq z sz, nth L t with
    | true, some (.arr _ sh' gi gb gs) => match shEq sh' sh with
      | true => some ⟨len, fun i => gi (off + i), fun i => gb (off + i), fun i => gs (off + i), none⟩
      | false => none
    | _, _ => none
  | .slf t z off len _ => match natEq z sz, nth L t with
    | true, some (.fix _ cs) => some ⟨len, fun i c => cInt (nthV cs (off + i * sz + c)), fun i c => cBool (nthV cs (off + i * sz + c)), fun i c => cStr (nthV cs (off + i * sz + c)),
        some (∀ i, i < len → rowOk sh ((cs.drop (off + i * sz)).take sz) = true)⟩
    | _, _ => none
  | .ro z len f => match natEq z sz with
    | true => some ⟨len, fun i c => cInt (nthV (f i) c), fun i c => cBool (nthV (f i) c), fun i c => cStr (nthV (f i) c), some (∀ i, i < len → rowOk sh (f i) = true)⟩
    | false => none
  | .str l => match sh with
    | [.int .u8] => match natEq sz 1 with
      | true => some ⟨l.length, fun i _ => byteAt l i, fun _ _ => false, fun _ _ => [], none⟩
      | false => none
    | _ => none
  | _ => none

/-- The rows of a list of cells. -/
def RowsAre (I : Imm) (sh : List Sh) (m : Nat) (gi : Nat → Nat → Int) (gb : Nat → Nat → Bool) (gs : Nat → Nat → List UInt8) (xs : List Value) : Prop :=
  xs.length = m * sh.length ∧ ∀ i, i < m → Rels [] I (shV sh (gi i) (gb i) (gs i) 0) ((xs.drop (i * sh.length)).take sh.length)

theorem RowsAre.one {I sh m gi gb gs xs} (h : RowsAre I sh m gi gb gs xs) (h0 : sh.length ≠ 0) : ∀ x ∈ xs, x.oneCell' = true := by
  intro x hx
  obtain ⟨j, hj, rfl⟩ := List.getElem_of_mem hx
  have hj' : j < m * sh.length := by rw [← h.1]; exact hj
  have hdm := Nat.div_add_mod j sh.length
  have hmod := Nat.mod_lt j (show 0 < sh.length by omega)
  have hi : j / sh.length < m := (Nat.div_lt_iff_lt_mul (by omega)).2 hj'
  refine shV_one (h.2 _ hi) _ ?_
  refine List.mem_of_getElem? (i := j % sh.length) ?_
  rw [List.getElem?_take_of_lt hmod, List.getElem?_drop, show j / sh.length * sh.length + j % sh.length = j by rw [Nat.mul_comm]; exact hdm]
  exact List.getElem?_eq_getElem hj

/-- Rows out of a part of a row of cells. -/
theorem RowsAre.of_part {ρ I} {sh : List Sh} {m : Nat} {gi : Nat → Nat → Int} {gb : Nat → Nat → Bool} {gs : Nat → Nat → List UInt8} {arr : List Value} {a : Nat} (hb : a + m * sh.length ≤ arr.length)
    (h : ∀ i, i < m → Rels ρ I (shV sh (gi i) (gb i) (gs i) 0) ((arr.drop (a + i * sh.length)).take sh.length)) : RowsAre I sh m gi gb gs ((arr.drop a).take (m * sh.length)) := by
  refine ⟨by simp; omega, fun i hi => ?_⟩
  have := h i hi
  have hle : (i + 1) * sh.length ≤ m * sh.length := Nat.mul_le_mul_right _ (by omega)
  rw [Nat.add_mul, Nat.one_mul] at hle
  have e : ((List.take (m * sh.length) (List.drop a arr)).drop (i * sh.length)).take sh.length = (arr.drop (a + i * sh.length)).take sh.length := by
    rw [List.drop_take, List.drop_drop, List.take_take, Nat.min_eq_left (by omega)]
  rw [e]
  exact shV_rel this

theorem part_cells {w : World} {b : Nat} {arr : Array Value} {el : TypeId} {fz : Nat × Nat} (h : w.heap[b]? = some (.cells arr el fz)) {a n : Nat} :
    ∀ j u, ((arr.toList.drop a).take n)[j]? = some u → w.cell? ((⟨b, a, none⟩ : Addr).add j) = some u := by
  intro j u hu
  rw [List.getElem?_take] at hu
  split at hu
  · rw [List.getElem?_drop] at hu
    rw [addr_add]
    simp only [World.cell?, h]
    simpa using hu
  · cases hu

theorem news_ok {P : Program} {ρ I L w} (hM : Mod ρ I L w) {sh : List Sh} {sz : Nat} (hsh : sh.length = sz) (h0 : sz ≠ 0) {v : V} {x : Value} (hr : Rel ρ I v x) {N : News} (h : newsOf L sh sz v = some N) (hp : ∀ p, N.p = some p → p)
    {tx : TypeId} (hk : ((∃ e, P.underlying tx = some (.slice e)) ∧ ∀ l, v ≠ .str l) ∨ (P.underlying tx = some .string ∧ ∃ l, v = .str l)) :
    ∃ news, Src P sz tx x N.m news w ∧ RowsAre I sh N.m N.gi N.gb N.gs news := by
  subst hsh
  unfold newsOf at h
  split at h
  · cases h; cases hr
    rcases hk with ⟨⟨e, hk⟩, _⟩ | ⟨_, l, hl⟩
    · exact ⟨[], Src.ofNil w hk 0, by simp [RowsAre]⟩
    · cases hl
  · rename_i t z off len cp
    split at h
    · rename_i sh' gi gb gs hz hL
      split at h
      · rename_i hsh
        cases h
        have := shEq_eq hsh; subst this
        rcases hk with ⟨⟨e, hk⟩, _⟩ | ⟨_, l, hl⟩
        · cases hr with
          | slNil => exact ⟨[], Src.ofNil w hk 0, by simp [RowsAre]⟩
          | sl _ _ _ _ _ c te o hρ hz' hl hlc hcc hc ho =>
            rw [nth_eq] at hL
            obtain ⟨o', ho', ⟨arr, el, rfl, h2, h3, h4⟩, _⟩ := hM.own _ _ te hL rfl hρ
            have hzz := natEq_eq hz
            by_cases hl0 : len = 0
            · subst hl0
              refine ⟨[], ⟨.inl ⟨e, hk⟩, fun _ => rfl, ?_, ?_, by simp, fun _ h => by cases h⟩, by simp [RowsAre]⟩
              · exact run_firstCells_some w sh'.length 0 _ 0 c [] (by simp) (fun j u hu => by simp at hu)
              · exact run_firstCells_some w.drew sh'.length 0 _ 0 c [] (by simp) (fun j u hu => by simp at hu)
            · have hsz : te.sz = sh'.length := by omega
              have hbound : te.o + off * te.sz + len * sh'.length ≤ arr.toList.length := by
                have : (off + len) * te.sz ≤ te.m * te.sz := Nat.mul_le_mul_right _ (by omega)
                rw [Nat.add_mul] at this
                rw [← hsz]; simp; omega
              have hrows : RowsAre I sh' len (fun i => gi (off + i)) (fun i => gb (off + i)) (fun i => gs (off + i)) ((arr.toList.drop (te.o + off * te.sz)).take (len * sh'.length)) := by
                refine RowsAre.of_part (ρ := ρ) hbound fun i hi => ?_
                have := (h4 (off + i) (by omega)).2
                simp only [cellsOf] at this
                rw [Nat.add_mul, ← Nat.add_assoc, hsz] at this
                rw [hsz]; exact this
              refine ⟨_, ?_, hrows⟩
              rw [ho (by omega)]
              exact Src.ofSlice w hk _ _ _ _ hrows.1 (part_cells ho') (hrows.one h0)
        · cases hl
      · cases h
    · cases h
  · rename_i t z off len cp
    split at h
    · rename_i cs hz hL
      cases h
      rcases hk with ⟨⟨e, hk⟩, _⟩ | ⟨_, l, hl⟩
      · cases hr with | slf _ _ _ _ _ te o hρ hn hlc hc ho =>
        rw [nth_eq] at hL
        obtain ⟨o', ho', ⟨arr, el, rfl, h2, h3, h4⟩, h5⟩ := hM.own _ _ te hL rfl hρ
        have hzz := natEq_eq hz
        subst hzz
        by_cases hl0 : len = 0
        · subst hl0
          refine ⟨[], ⟨.inl ⟨e, hk⟩, fun _ => rfl, ?_, ?_, by simp, fun _ h => by cases h⟩, by simp [RowsAre]⟩
          · exact run_firstCells_some w sh.length 0 _ 0 cp [] (by simp) (fun j u hu => by simp at hu)
          · exact run_firstCells_some w.drew sh.length 0 _ 0 cp [] (by simp) (fun j u hu => by simp at hu)
        · obtain ⟨g1, g2⟩ := h4 0 (by omega)
          simp only [cellsOf, Nat.zero_mul, Nat.add_zero] at g1 g2
          have hm1 : te.m * te.sz = te.sz + (te.m - 1) * te.sz := by
            have : te.m = 1 + (te.m - 1) := by omega
            rw [this, Nat.add_mul, Nat.one_mul]; simp
          have hlc' : len * sh.length ≤ cp * sh.length := Nat.mul_le_mul_right _ hlc
          have hbound : te.o + off + len * sh.length ≤ arr.toList.length := by simp; omega
          have hrows : RowsAre I sh len (fun i c => cInt (nthV cs (off + i * sh.length + c))) (fun i c => cBool (nthV cs (off + i * sh.length + c))) (fun i c => cStr (nthV cs (off + i * sh.length + c))) ((arr.toList.drop (te.o + off)).take (len * sh.length)) := by
            refine RowsAre.of_part (ρ := ρ) hbound fun i hi => ?_
            have hrow := row_at (hp _ rfl i hi)
            rw [hrow]
            have hle : (i + 1) * sh.length ≤ len * sh.length := Nat.mul_le_mul_right _ (by omega)
            rw [Nat.add_mul, Nat.one_mul] at hle
            have h5 := (g2.drop (off + i * sh.length)).take sh.length
            have h6 : ((List.drop (off + i * sh.length) (List.take te.sz (List.drop te.o arr.toList))).take sh.length) = (List.drop (te.o + off + i * sh.length) arr.toList).take sh.length := by
              rw [List.drop_take, List.drop_drop, List.take_take, Nat.min_eq_left (by omega), Nat.add_assoc]
            rw [h6] at h5
            exact h5
          refine ⟨_, ?_, hrows⟩
          rw [ho (by omega)]
          exact Src.ofSlice w hk _ _ _ _ hrows.1 (part_cells ho') (hrows.one h0)
      · cases hl
    · cases h
  · rename_i z len f
    split at h
    · rename_i hz
      cases h
      have hzz := natEq_eq hz
      rcases hk with ⟨⟨e, hk⟩, _⟩ | ⟨_, l, hl⟩
      · cases hr with
        | roNil => exact ⟨[], Src.ofNil w hk 0, by simp [RowsAre]⟩
        | ro _ _ _ b off cap arr el fz hI hc hs hrr =>
          have ho' := hM.imm _ _ hI
          subst hzz
          by_cases hl0 : len = 0
          · subst hl0
            refine ⟨[], ⟨.inl ⟨e, hk⟩, fun _ => rfl, ?_, ?_, by simp, fun _ h => by cases h⟩, by simp [RowsAre]⟩
            · exact run_firstCells_some w sh.length 0 _ 0 cap [] (by simp) (fun j u hu => by simp at hu)
            · exact run_firstCells_some w.drew sh.length 0 _ 0 cap [] (by simp) (fun j u hu => by simp at hu)
          · have hbound : off + len * sh.length ≤ arr.toList.length := by
              have h1 := (hrr (len - 1) (by omega)).length
              rw [hs (len - 1) (by omega)] at h1
              simp at h1
              have : len * sh.length = (len - 1) * sh.length + sh.length := by
                have : len = (len - 1) + 1 := by omega
                rw [this, Nat.add_mul, Nat.one_mul]; simp
              simp; omega
            have hrows : RowsAre I sh len (fun i c => cInt (nthV (f i) c)) (fun i c => cBool (nthV (f i) c)) (fun i c => cStr (nthV (f i) c)) ((arr.toList.drop off).take (len * sh.length)) := by
              refine RowsAre.of_part (ρ := []) hbound fun i hi => ?_
              have hrow := row_sh (pre := []) (hp _ rfl i hi)
              simp only [List.nil_append, List.length_nil] at hrow
              rw [hrow]
              exact hrr i hi
            exact ⟨_, Src.ofSlice w hk _ _ _ _ hrows.1 (part_cells ho') (hrows.one h0), hrows⟩
      · cases hl
    · cases h
  · rename_i l
    split at h
    · split at h
      · cases h
        rcases hk with ⟨_, hne⟩ | ⟨hk, _⟩
        · exact absurd rfl (hne l)
        · cases hr with | str s _ hsl =>
          have hlen : s.size = l.length := by rw [← hsl]; exact (Array.length_toList).symm
          refine ⟨byteCells s, ?_, ?_⟩
          · have := Src.ofString (P := P) w hk s
            rw [hlen] at this; exact this
          · refine ⟨by rw [byteCells_length, hlen]; simp, fun i hi => ?_⟩
            have hget : (byteCells s)[i]? = some (.int .u8 (byteAt l i)) := by
              unfold byteCells
              rw [List.getElem?_map, hsl]
              rw [List.getElem?_eq_getElem hi]
              simp only [byteAt, List.getD_eq_getElem?_getD, List.getElem?_eq_getElem hi]
              rfl
            have hlt := (List.getElem?_eq_some_iff.1 hget).1
            have : ((byteCells s).drop (i * [Sh.int IntKind.u8].length)).take [Sh.int IntKind.u8].length = [.int .u8 (byteAt l i)] := by
              simp only [List.length_cons, List.length_nil, Nat.zero_add, Nat.mul_one]
              rw [List.drop_eq_getElem_cons hlt]
              simp only [List.take_succ_cons, List.take_zero]
              rw [List.getElem?_eq_getElem hlt] at hget
              injection hget with hget
              rw [hget]
            rw [this]
            exact .cons _ _ _ _ (.int _ _) .nil
      · cases h
    · cases h
  · cases h

/-! ### append -/
def appF {α : Type} (n : Nat) (f g : Nat → α) : Nat → α := fun i =>
  match Nat.blt i n with
  | true => f i
  | false => g (i - n)
theorem appF_lt {α : Type} {n : Nat} {f g : Nat → α} {i : Nat} (h : i < n) : appF n f g i = f i := by
  have : Nat.blt i n = true := by simp [Nat.blt]; omega
  simp [appF, this]
theorem appF_ge {α : Type} {n : Nat} {f g : Nat → α} {i : Nat} (h : n ≤ i) : appF n f g i = g (i - n) := by
  have : Nat.blt i n = false := by
    cases hb : Nat.blt i n with
    | false => rfl
    | true => simp [Nat.blt] at hb; omega
  simp [appF, this]

def reqO (p : Option Prop) (r : PR) : PR :=
  match p with
  | none => r
  | some p => .req p r
def strSl (t : Ty) (x : V) : Bool :=
  match t, x with
  | .str, .str _ => true
  | .slice _, .str _ => false
  | .slice _, _ => true
  | _, _ => false
def fits (bytes n : Nat) : Bool := decide (n * bytes ≤ 140737488355328) && decide (n ≤ 4611686018427387904)
def appendV (T : Tab) (L : List Blk) (st tx : Nat) (s x : V) : PR :=
  match (T st).ty with
  | .slice e => match (T e).ty.known, (T e).size, shOf (T e).zero, strSl (T tx).ty x with
    | true, sz + 1, some sh, true => match newsOf L sh (sz + 1) x with
      | some N => match s with
        | .nilSl => reqO N.p (.grd (fits (T e).bytes N.m) (.app none 0 (.arr e sh N.gi N.gb N.gs) N.m (sz + 1) (fun t => .sl t (sz + 1) 0 N.m N.m)))
        | .sl t z off len _ => match natEq z (sz + 1), nth L t with
          | true, some (.arr e' sh' fi fb fs) => match shEq sh' sh, natEq e' e with
            | true, true => reqO N.p (.grd (fits (T e).bytes (len + N.m)) (.app (some t) off (.arr e sh (appF len (fun i => fi (off + i)) N.gi) (appF len (fun i => fb (off + i)) N.gb) (appF len (fun i => fs (off + i)) N.gs)) (len + N.m) (sz + 1)
                (fun t => .sl t (sz + 1) 0 (len + N.m) (len + N.m))))
            | _, _ => .bad
          | _, _ => .bad
        | _ => .bad
      | none => .bad
    | _, _, _, _ => .bad
  | _ => .bad

theorem RowsAre.append {I sh m n} {fi gi : Nat → Nat → Int} {fb gb : Nat → Nat → Bool} {fs gs : Nat → Nat → List UInt8} {xs ys : List Value} (h : RowsAre I sh m fi fb fs xs) (k : RowsAre I sh n gi gb gs ys) :
    RowsAre I sh (m + n) (appF m fi gi) (appF m fb gb) (appF m fs gs) (xs ++ ys) := by
  refine ⟨by rw [List.length_append, h.1, k.1, Nat.add_mul], fun i hi => ?_⟩
  by_cases hlt : i < m
  · rw [appF_lt hlt, appF_lt hlt, appF_lt hlt]
    have hle : (i + 1) * sh.length ≤ m * sh.length := Nat.mul_le_mul_right _ (by omega)
    rw [Nat.add_mul, Nat.one_mul] at hle
    have h1 := h.1
    rw [List.drop_append_of_le_length (by omega), List.take_append_of_le_length (by simp; omega)]
    exact h.2 i hlt
  · rw [appF_ge (by omega), appF_ge (by omega), appF_ge (by omega)]
    have hle : m * sh.length ≤ i * sh.length := Nat.mul_le_mul_right _ (by omega)
    have h1 := h.1
    rw [List.drop_append, List.drop_eq_nil_of_le (by omega), List.nil_append, h1, ← Nat.sub_mul]
    exact k.2 (i - m) (by omega)
theorem RowsAre.cells {I ρ sh m gi gb gs} {xs rest : List Value} (h : RowsAre I sh m gi gb gs xs) {arr : List Value} {a : Nat} (he : arr.drop a = xs ++ rest) :
    ∀ i, i < m → (cellsOf (.arr 0 sh gi gb gs) i).length = sh.length ∧ Rels ρ I (cellsOf (.arr 0 sh gi gb gs) i) ((arr.drop (a + i * sh.length)).take sh.length) := by
  intro i hi
  refine ⟨by simp [cellsOf, shV_length], ?_⟩
  have hle : (i + 1) * sh.length ≤ m * sh.length := Nat.mul_le_mul_right _ (by omega)
  rw [Nat.add_mul, Nat.one_mul] at hle
  have h1 := h.1
  rw [← List.drop_drop, he, List.drop_append_of_le_length (by omega), List.take_append_of_le_length (by simp; omega)]
  exact (h.2 i hi).mono (TEs.nil_le _) (Imm.le_refl _)

section
variable {P : Program} {ρ : List (Option TE)} {I : Imm} {L : List Blk} {w : World}

/-- There is no room: a new row. -/
theorem app_grow {st tx ty e : Nat} {ie : TypeInfo} {z : Value} (hd : P.underlying st = some (.slice e)) (g1 : P.info? e = some ie) (g6 : ie.zero = some z) {sh : List Sh} (hz : z.cells.size = sh.length) (hsz : ie.size = sh.length)
    {base : Option Addr} {len cap : Nat} {olds : List Value} (hold : (Builtin.firstCells ie.size len (.slice base len cap)).run P w.drew = .ok olds.toArray w.drew) {fi : Nat → Nat → Int} {fb : Nat → Nat → Bool} {fs : Nat → Nat → List UInt8}
    (ho : RowsAre I sh len fi fb fs olds) {xx : Value} {N : News} {news : List Value} (hsrc : Src P ie.size tx xx N.m news w) (hn : RowsAre I sh N.m N.gi N.gb N.gs news) (hg : cap < len + N.m) (hf : fits ie.bytes (len + N.m) = true)
    {s : Sem Next} (hs : s.run P w = ((Builtin.append_ #[st, tx] ty #[.slice base len cap, xx]).run P w).andThen fun v w' => .ok (.value v) w') {t : Option Nat} {off : Nat} :
    AppTo P ρ I L w s t off (.arr e sh (appF len fi N.gi) (appF len fb N.gb) (appF len fs N.gs)) (len + N.m) sh.length (fun t => .sl t sh.length 0 (len + N.m) (len + N.m)) := by
  simp only [fits, Bool.and_eq_true, decide_eq_true_eq] at hf
  have hr := run_append_grow_src (P := P) w st tx ty e ie z hd g1 g6 base len cap olds hold xx N.m news hsrc hg (by omega) (growslice_fits hg hf.1)
  rw [hr] at hs
  have hge := grownCap_ge w (len + N.m) cap e
  have happ := ho.append hn
  refine ⟨_, _, .inl hs, .inl ⟨⟨w.heap.size, 0, sh.length, len + N.m, grownCap w (len + N.m) cap e⟩, _, rfl, rfl, heap_alloc_new w.drew _, ?_, .inl (Nat.le_refl _), fun k hk _ => heap_alloc_old w.drew _ k hk, by simp, rfl, rfl, rfl⟩⟩
  intro ρ' t' hle ht'
  refine ⟨⟨⟨_, e, rfl, hge, ?_, ?_⟩, _, rfl⟩, ?_⟩
  · simp only [Array.size_append, List.size_toArray, size_zeroCells, hz, happ.1, ← Nat.add_mul]
    rw [show len + N.m + (grownCap w (len + N.m) cap e - (len + N.m)) = grownCap w (len + N.m) cap e by omega]; simp
  · have := happ.cells (ρ := ρ') (arr := ((olds ++ news).toArray ++ Builtin.zeroCells z.cells (grownCap w (len + N.m) cap e - (len + N.m))).toList) (a := 0) (rest := (Builtin.zeroCells z.cells (grownCap w (len + N.m) cap e - (len + N.m))).toList) (by simp)
    exact this
  · exact .sl _ _ _ _ _ (grownCap w (len + N.m) cap e) _ 0 ht' rfl (by simp) (Nat.le_refl _) hge (by simp) (fun _ => by simp)

/-- There is room. -/
theorem app_room {st tx ty e : Nat} {ie : TypeInfo} (hd : P.underlying st = some (.slice e)) (g1 : P.info? e = some ie) {sh : List Sh} (hsz : ie.size = sh.length) (h0 : sh.length ≠ 0)
    {te : TE} {t o off len c : Nat} {arr : Array Value} {el : TypeId} {fi : Nat → Nat → Int} {fb : Nat → Nat → Bool} {fs : Nat → Nat → List UInt8} (hρ : ρ[t]? = some (some te)) (hL : L[t]? = some (.arr el sh fi fb fs)) (hb : w.heap[te.b]? = some (.cells arr el (0, 0)))
    (hts : te.sz = sh.length) (hc : off + c ≤ te.m) (hoo : c ≠ 0 → o = te.o + off * te.sz) (hm : te.o + te.m * te.sz ≤ arr.size)
    (hrows : RowsAre I sh len (fun i => fi (off + i)) (fun i => fb (off + i)) (fun i => fs (off + i)) ((arr.toList.drop (te.o + off * te.sz)).take (len * sh.length)))
    {xx : Value} {N : News} {news : List Value} (hsrc : Src P ie.size tx xx N.m news w) (hn : RowsAre I sh N.m N.gi N.gb N.gs news) (hroom : len + N.m ≤ c)
    {s : Sem Next} (hs : s.run P w = ((Builtin.append_ #[st, tx] ty #[.slice (some ⟨te.b, o, none⟩) len c, xx]).run P w).andThen fun v w' => .ok (.value v) w') :
    AppTo P ρ I L w s (some t) off (.arr el sh (appF len (fun i => fi (off + i)) N.gi) (appF len (fun i => fb (off + i)) N.gb) (appF len (fun i => fs (off + i)) N.gs)) (len + N.m) sh.length (fun t => .sl t sh.length 0 (len + N.m) (len + N.m)) := by
  have happ := hrows.append hn
  have hle : (len + N.m) * te.sz ≤ c * te.sz := Nat.mul_le_mul_right _ hroom
  have hle2 : (off + c) * te.sz ≤ te.m * te.sz := Nat.mul_le_mul_right _ hc
  rw [Nat.add_mul] at hle2
  have hlen1 : len * te.sz ≤ (len + N.m) * te.sz := Nat.mul_le_mul_right _ (by omega)
  have hsplit : (len + N.m) * te.sz = len * te.sz + N.m * te.sz := Nat.add_mul _ _ _
  have hnl := hn.1
  rw [← hts] at hnl
  have hmsub : off * te.sz + (te.m - off) * te.sz = te.m * te.sz := by rw [← Nat.add_mul]; congr 1; omega
  -- the row behind
  obtain ⟨arr', w', hrun, hturn, hsize', hdrop⟩ : ∃ arr' w', (Builtin.append_ #[st, tx] ty #[.slice (some ⟨te.b, o, none⟩) len c, xx]).run P w = .ok (.slice (some ⟨te.b, o, none⟩) (len + N.m) c) w' ∧ Turn w te.b (.cells arr' el (0, 0)) w' ∧ arr'.size = arr.size ∧
      ∃ rest, arr'.toList.drop (te.o + off * te.sz) = ((arr.toList.drop (te.o + off * te.sz)).take (len * sh.length) ++ news) ++ rest := by
    have hold : (Builtin.append_ #[st, tx] ty #[.slice (some ⟨te.b, o, none⟩) len c, xx]).run P w = ((storeCells ((⟨te.b, o, none⟩ : Addr).add (len * ie.size)) news).run P w).andThen fun _ w' => .ok (.slice (some ⟨te.b, o, none⟩) (len + N.m) c) w' := by
      rcases hsrc.kind with ⟨e', hk⟩ | hk <;> simp [Builtin.append_, run_underlying hd, run_underlying hk, sizeOf, typeInfo, g1, hsrc.len, hroom, hsrc.cells, Sem.run_bind] <;> rfl
    by_cases hm0 : N.m = 0
    · have hnil : news = [] := List.eq_nil_of_length_eq_zero (by rw [hnl, hm0]; simp)
      subst hnil
      refine ⟨arr, w, ?_, ⟨hb, fun _ _ => rfl, rfl, rfl, rfl, rfl⟩, rfl, (arr.toList.drop (te.o + off * te.sz)).drop (len * sh.length), by rw [List.append_nil]; exact (List.take_append_drop _ _).symm⟩
      rw [hold]; simp [storeCells]
    · have ho := hoo (by omega)
      have hst := run_storeCells_at (P := P) te.b (te.o + off * te.sz + len * te.sz) el news 0 arr w hb (by simp; omega) (hn.one h0)
      simp only [Nat.add_zero] at hst
      refine ⟨(arr.toList.take (te.o + off * te.sz + len * te.sz) ++ news ++ arr.toList.drop (te.o + off * te.sz + len * te.sz + news.length)).toArray, _, ?_, turn_setRow hb, ?_, arr.toList.drop (te.o + off * te.sz + len * te.sz + news.length), ?_⟩
      · rw [hold, ho, addr_add, hsz, ← hts, hst]; rfl
      · simp; omega
      · simp only [List.toList_toArray, ← hts]
        rw [List.append_assoc, List.drop_append_of_le_length (by simp; omega), List.drop_take, List.append_assoc]
        congr 2; omega
  refine ⟨_, w', .inl (by rw [hs, hrun]; rfl), .inl ⟨⟨te.b, te.o + off * te.sz, sh.length, len + N.m, te.m - off⟩, _, rfl, rfl, hturn.new, ?_, .inr ⟨t, te, _, rfl, hL, rfl, hρ, rfl, hts.symm, rfl, rfl⟩, fun k _ hk => hturn.old k hk, by rw [hturn.size]; exact Nat.le_refl _, hturn.os, hturn.tape, hturn.output⟩⟩
  obtain ⟨rest, hdrop⟩ := hdrop
  intro ρ' t' hle' ht'
  refine ⟨⟨⟨arr', el, rfl, by simp; omega, by simp only []; rw [hsize', ← hts]; omega, happ.cells hdrop⟩, _, rfl⟩, ?_⟩
  exact .sl t' sh.length 0 (len + N.m) (len + N.m) c ⟨te.b, te.o + off * te.sz, sh.length, len + N.m, te.m - off⟩ o ht' rfl (by simp) (Nat.le_refl _) hroom (by simp; omega) (fun hc0 => by rw [hoo hc0]; simp)

end

theorem appendV_ok {T : Tab} {P : Program} (hT : TOk P T) {ρ I L w} (hM : Mod ρ I L w) {st tx ty : Nat} {s x : V} {xs xx : Value} (hxs : Rel ρ I s xs) (hxx : Rel ρ I x xx) {sm : Sem Next}
    (hs : sm.run P w = ((Builtin.append_ #[st, tx] ty #[xs, xx]).run P w).andThen fun v w' => .ok (.value v) w') : (appendV T L st tx s x).Ok P ρ I L w sm := by
  unfold appendV
  split <;> try trivial
  rename_i e hty
  split <;> try trivial
  rename_i sz sh hke hsize hsh hstr
  split <;> try trivial
  rename_i N hN
  have hk : (T st).ty.known = true := by rw [hty]; rfl
  obtain ⟨d, hd, hdo⟩ := under hT hk
  rw [hty] at hdo
  cases d <;> simp [DescOk] at hdo
  subst hdo
  rename_i e
  obtain ⟨ie, de, g1, g2, g3, g4, g5, ⟨z, g6, g7, g8⟩, _⟩ := (hT.ok hke).ex
  have hshl : sh.length = sz + 1 := by
    have a1 := (g8 ρ I).length
    have a2 : (T e).zero.length = sh.length := by rw [← shOf_eq 0 hsh, shV_length]
    simp at a1; omega
  have hkind : ((∃ e, P.underlying tx = some (.slice e)) ∧ ∀ l, x ≠ .str l) ∨ (P.underlying tx = some .string ∧ ∃ l, x = .str l) := by
    unfold strSl at hstr
    split at hstr
    · rename_i l hty'
      obtain ⟨d', hd', hdo'⟩ := under hT (t := tx) (by rw [hty']; rfl)
      rw [hty'] at hdo'
      cases d' <;> simp [DescOk] at hdo'
      exact .inr ⟨hd', l, rfl⟩
    · cases hstr
    · rename_i e' hty' hne
      obtain ⟨d', hd', hdo'⟩ := under hT (t := tx) (by rw [hty']; rfl)
      rw [hty'] at hdo'
      cases d' <;> simp [DescOk] at hdo'
      exact .inl ⟨⟨_, hd'⟩, fun l hl => hne l hl⟩
    · cases hstr
  have hsz : ie.size = sh.length := by omega
  have hreq : ∀ {r : PR}, ((∀ p, N.p = some p → p) → r.Ok P ρ I L w sm) → (reqO N.p r).Ok P ρ I L w sm := by
    intro r hr
    unfold reqO
    split
    · rename_i hp; exact hr fun p h => by rw [hp] at h; cases h
    · rename_i p hp; exact fun hpp => hr fun q h => by rw [hp] at h; cases h; exact hpp
  split <;> try trivial
  · -- onto nothing
    refine hreq fun hp hf => ?_
    obtain ⟨news, n1, n2⟩ := news_ok hM hshl (by omega) hxx hN hp hkind
    cases hxs
    rw [← hshl] at n1 ⊢
    have hold : (Builtin.firstCells ie.size 0 (.slice none 0 0)).run P w.drew = .ok ([] : List Value).toArray w.drew := run_firstCells_none w.drew ie.size 0 0 0
    by_cases hm : N.m = 0
    · refine ⟨.slice none 0 0, w, .inl ?_, .inr ⟨rfl, fun ρ' t' => ?_⟩⟩
      · have hnil : news = [] := List.eq_nil_of_length_eq_zero (by rw [n2.1, hm]; simp)
        rw [hnil, ← hsz] at n1
        have hcl := n1.cells
        rw [hm] at hcl
        rw [hs]
        rcases n1.kind with ⟨e', hk⟩ | hk <;> simp [Builtin.append_, run_underlying hd, run_underlying hk, sizeOf, typeInfo, g1, n1.len, hm, hcl, storeCells]
      · rw [hm]; exact .slNil _ _ _
    · rw [← hsz] at n1
      have hrow0 : RowsAre I sh 0 (fun _ _ => 0) (fun _ _ => false) (fun _ _ => []) [] := by simp [RowsAre]
      have := app_grow (ρ := ρ) (L := L) (t := none) (off := 0) hd g1 g6 (by omega) hsz hold hrow0 n1 n2 (by omega) (by rw [g4, Nat.zero_add]; exact hf) hs
      simp only [Nat.zero_add] at this
      have hap : ∀ {α : Type} (f g : Nat → α), appF 0 f g = g := fun f g => by funext i; rw [appF_ge (Nat.zero_le _)]; rfl
      rw [hap, hap, hap] at this
      exact this
  · -- onto a row of one's own
    rename_i t zz off len cp
    split <;> try trivial
    rename_i e' sh' fi fb fs hzz hL
    split <;> try trivial
    rename_i hsheq hee
    have := shEq_eq hsheq
    subst this
    have := natEq_eq hee
    subst this
    refine hreq fun hp hf => ?_
    obtain ⟨news, n1, n2⟩ := news_ok hM hshl (by omega) hxx hN hp hkind
    have hzq := natEq_eq hzz
    rw [nth_eq] at hL
    rw [← hshl] at n1 ⊢
    rw [← hsz] at n1
    cases hxs with
    | slNil =>
      have hold : (Builtin.firstCells ie.size 0 (.slice none 0 0)).run P w.drew = .ok ([] : List Value).toArray w.drew := run_firstCells_none w.drew ie.size 0 0 0
      by_cases hm : N.m = 0
      · refine ⟨.slice none 0 0, w, .inl ?_, .inr ⟨rfl, fun ρ' t' => ?_⟩⟩
        · have hnil : news = [] := List.eq_nil_of_length_eq_zero (by rw [n2.1, hm]; simp)
          rw [hnil] at n1
          have hcl := n1.cells
          rw [hm] at hcl
          rw [hs]
          rcases n1.kind with ⟨e', hk⟩ | hk <;> simp [Builtin.append_, run_underlying hd, run_underlying hk, sizeOf, typeInfo, g1, n1.len, hm, hcl, storeCells]
        · rw [hm]; exact .slNil _ _ _
      · exact app_grow (ρ := ρ) (L := L) (t := some t) hd g1 g6 (by omega) hsz hold (fi := fun i => fi (off + i)) (fb := fun i => fb (off + i)) (fs := fun i => fs (off + i)) (by simp [RowsAre]) n1 n2 (by omega) (by rw [g4]; exact hf) hs
    | sl _ _ _ _ _ c te o hρ hz hl hlc hcc hc ho =>
      obtain ⟨o', ho', ⟨arr, el, rfl, h2, h3, h4⟩, a0, ha0⟩ := hM.own _ _ te hL rfl hρ
      cases ha0
      have hts : te.sz = sh'.length := by omega
      have hbound : te.o + off * te.sz + len * sh'.length ≤ arr.toList.length := by
        have : (off + len) * te.sz ≤ te.m * te.sz := Nat.mul_le_mul_right _ (by omega)
        rw [Nat.add_mul] at this
        rw [← hts]; simp; omega
      have hrows : RowsAre I sh' len (fun i => fi (off + i)) (fun i => fb (off + i)) (fun i => fs (off + i)) ((arr.toList.drop (te.o + off * te.sz)).take (len * sh'.length)) := by
        refine RowsAre.of_part (ρ := ρ) hbound fun i hi => ?_
        have := (h4 (off + i) (by omega)).2
        simp only [cellsOf] at this
        rw [Nat.add_mul, ← Nat.add_assoc, hts] at this
        rw [hts]; exact this
      by_cases hroom : len + N.m ≤ c
      · exact app_room hd g1 hsz (by omega) hρ hL ho' hts hc ho h3 hrows n1 n2 hroom hs
      · have hold : (Builtin.firstCells ie.size len (.slice (some ⟨te.b, o, none⟩) len c)).run P w.drew = .ok ((arr.toList.drop (te.o + off * te.sz)).take (len * sh'.length)).toArray w.drew := by
          by_cases hl0 : len = 0
          · subst hl0
            exact run_firstCells_some w.drew ie.size 0 _ 0 c _ (by simp) (fun j u hu => by simp at hu)
          · rw [ho (by omega)]
            exact run_firstCells_some w.drew ie.size len _ len c _ (by rw [hrows.1, hsz]) (part_cells (w := w.drew) ho')
        exact app_grow (ρ := ρ) (L := L) (t := some t) hd g1 g6 (by omega) hsz hold hrows n1 n2 (by omega) (by rw [g4]; exact hf) hs

/-- n rows. -/
def rowsOk (sh : List Sh) (sz : Nat) : Nat → List V → Bool
  | 0, _ => true
  | n + 1, cs => match rowOk sh (cs.take sz) with
    | true => rowsOk sh sz n (cs.drop sz)
    | false => false
theorem rowsOk_get {sh : List Sh} {sz : Nat} : ∀ {n : Nat} {cs : List V}, rowsOk sh sz n cs = true → ∀ i, i < n → rowOk sh ((cs.drop (i * sz)).take sz) = true
  | 0, _, _, i, hi => by omega
  | n + 1, cs, h, i, hi => by
    simp only [rowsOk] at h
    split at h
    · rename_i h0
      cases i with
      | zero => simpa using h0
      | succ i =>
        have := rowsOk_get h i (by omega)
        rw [List.drop_drop] at this
        rw [Nat.add_mul, Nat.one_mul, Nat.add_comm]; exact this
    · cases h

end Go.Vx
