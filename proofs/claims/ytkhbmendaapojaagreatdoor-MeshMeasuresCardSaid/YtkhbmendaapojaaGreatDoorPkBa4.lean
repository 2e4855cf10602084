/- Maps of integers, and ranges over maps and texts. -/
import Derived.Test.YtkhbmendaapojaaGreatDoorPkBa3
import Derived.Laws.RangeAny
set_option linter.unusedSimpArgs false
set_option linter.unusedVariables false
/- Maps of integers, and ranges over maps and texts. -/
namespace Go.Vx
open Go Go.RowKit

def findM : List (List Int × Int) → List Int → Option Int
  | [], _ => none
  | (k', v) :: m, k => if k = k' then some v else findM m k
def posM : List (List Int × Int) → List Int → Nat
  | [], _ => 0
  | (k', _) :: m, k => if k = k' then 0 else posM m k + 1
def putM : List (List Int × Int) → List Int → Int → List (List Int × Int)
  | [], k, v => [(k, v)]
  | (k', v') :: m, k, v => if k = k' then (k', v) :: m else (k', v') :: putM m k v
def setM : List (List Int × Int) → Nat → Int → List (List Int × Int)
  | [], _, _ => []
  | (k, _) :: m, 0, v => (k, v) :: m
  | p :: m, i + 1, v => p :: setM m i v

def valV : Sh → Int → V
  | .int k, n => .int k n
  | .bool, n => .bool (decide (n ≠ 0))
  | .str, _ => .tup []
theorem val_rel (ρ I) (vk : Sh) (n : Int) : Rel ρ I (valV vk n) (valX vk n) := by
  cases vk
  · exact .int _ _
  · exact .bool _
  · exact .tup _ _ .nil
def ikList : List IntKind → List V → Option (List Int)
  | [], [] => some []
  | k :: ks, .int k' n :: l => match ikEq k k', ikList ks l with
    | true, some r => some (n :: r)
    | _, _ => none
  | _, _ => none
theorem ikList_eq {ρ I} : ∀ {ks : List IntKind} {l : List V} {r : List Int} {xs : List Value}, ikList ks l = some r → Rels ρ I l xs → r.length = ks.length ∧ xs = keyC ks r
  | [], [], r, xs, h, hr => by simp [ikList] at h; subst h; cases hr; exact ⟨rfl, rfl⟩
  | [], _ :: _, r, xs, h, hr => by simp [ikList] at h
  | k :: ks, [], r, xs, h, hr => by simp [ikList] at h
  | k :: ks, v :: l, r, xs, h, hr => by
    cases v <;> simp only [ikList] at h <;> try (cases h; done)
    rename_i k' n
    split at h
    · rename_i r' hk hr'
      cases h
      have := ikEq_eq hk; subst this
      cases hr with | cons _ _ x xs hv hs =>
      obtain ⟨h1, h2⟩ := ikList_eq hr' hs
      cases hv
      exact ⟨by simp [h1], by rw [h2]; rfl⟩
    · cases h
def keyIn (ag : Bool) (ks : List IntKind) (v : V) : Option (List Int) :=
  match ag, v with
  | true, .agg cs => ikList ks cs
  | false, .int k n => match ks with
    | [k'] => match ikEq k' k with
      | true => some [n]
      | false => none
    | _ => none
  | _, _ => none
theorem keyIn_eq {ρ I} {ag : Bool} {ks : List IntKind} {v : V} {r : List Int} {x : Value} (h : keyIn ag ks v = some r) (hr : Rel ρ I v x) : r.length = ks.length ∧ x = keyX ag ks r := by
  unfold keyIn at h
  split at h
  · cases hr; rename_i xs hxs
    obtain ⟨h1, h2⟩ := ikList_eq h hxs
    exact ⟨h1, by rw [keyX, ← h2]⟩
  · split at h
    · split at h
      · rename_i hk
        have := ikEq_eq hk; subst this
        cases h; cases hr
        exact ⟨rfl, rfl⟩
      · cases h
    · cases h
  · cases h
def valIn (vk : Sh) (v : V) : Option Int :=
  match vk, v with
  | .int k, .int k' n => match ikEq k k' with
    | true => some n
    | false => none
  | .bool, .bool b => some (cond b 1 0)
  | _, _ => none
theorem valIn_eq {ρ I} {vk : Sh} {v : V} {n : Int} {x : Value} (h : valIn vk v = some n) (hr : Rel ρ I v x) : x = valX vk n := by
  unfold valIn at h
  split at h
  · split at h
    · rename_i hk
      have := ikEq_eq hk; subst this
      cases h; cases hr; rfl
    · cases h
  · cases h; cases hr; rename_i b; cases b <;> rfl
  · cases h

/-! ### Keys' types -/
def rep (k : IntKind) : Nat → List IntKind
  | 0 => []
  | n + 1 => k :: rep k n
def iksEq : List IntKind → List IntKind → Bool
  | [], [] => true
  | a :: l, b :: m => match ikEq a b with
    | true => iksEq l m
    | false => false
  | _, _ => false
theorem iksEq_eq : ∀ {l m : List IntKind}, iksEq l m = true → l = m
  | [], [], _ => rfl
  | [], _ :: _, h => by cases h
  | _ :: _, [], h => by cases h
  | a :: l, b :: m, h => by
    simp only [iksEq] at h
    split at h
    · rename_i hk; rw [ikEq_eq hk, iksEq_eq h]
    · cases h
/-- Fields one cell wide, of integers, one behind the other. -/
def fsInt (T : Tab) : Nat → List (Nat × Nat) → Option (List IntKind)
  | _, [] => some []
  | i, (off, t) :: fs => match natEq off i, (T t).ty, fsInt T (i + 1) fs with
    | true, .int k, some ks => some (k :: ks)
    | _, _, _ => none
/-- A key type: its cells. -/
def keyTy (T : Tab) (t : Nat) : Option (Bool × List IntKind) :=
  match (T t).ty, (T t).eq with
  | .int k, _ => some (false, [k])
  | .array n e, true => match (T e).ty, (T e).size with
    | .int k, 1 => match Nat.ble n 20 with
      | true => some (true, rep k n)
      | false => none
    | _, _ => none
  | .struct fs, true => match fsInt T 0 fs with
    | some ks => match Nat.ble (len fs) 20 with
      | true => some (true, ks)
      | false => none
    | none => none
  | _, _ => none

structure KeyLaw (P : Program) (t : Nat) (ag : Bool) (ks : List IntKind) : Prop where
  check : ∀ em k w, k.length = ks.length → (Instr.checkKey em 10000 t (keyX ag ks k)).run P w = .ok () w
  eq : ∀ k k' w, k.length = ks.length → k'.length = ks.length → (Op.equal t (keyX ag ks k) (keyX ag ks k')).run P w = .ok (decide (k = k')) w

def keyV : List IntKind → List Int → List V
  | k :: ks, n :: ns => .int k n :: keyV ks ns
  | _, _ => []
theorem keyV_rel (ρ I) : ∀ (ks : List IntKind) (k : List Int), Rels ρ I (keyV ks k) (keyC ks k)
  | [], _ => .nil
  | _ :: _, [] => .nil
  | _ :: ks, _ :: k => .cons _ _ _ _ (.int _ _) (keyV_rel ρ I ks k)
theorem keyV_len : ∀ {ks : List IntKind} {k : List Int}, k.length = ks.length → (keyV ks k).length = ks.length
  | [], [], _ => rfl
  | [], _ :: _, h => by simp at h
  | _ :: _, [], h => by simp at h
  | _ :: ks, _ :: k, h => by simp only [keyV, List.length_cons]; rw [keyV_len (by simpa using h)]
theorem keyV_get : ∀ {ks : List IntKind} {k : List Int} (i : Nat) {κ : IntKind} {n : Int}, ks[i]? = some κ → k[i]? = some n → (keyV ks k)[i]? = some (.int κ n)
  | [], _, _, _, _, h, _ => by simp at h
  | _ :: _, [], _, _, _, _, h => by simp at h
  | _ :: ks, _ :: k, 0, _, _, h, h' => by simp at h h'; subst h; subst h'; rfl
  | _ :: ks, _ :: k, i + 1, _, _, h, h' => by simp only [keyV, List.getElem?_cons_succ] at *; exact keyV_get i h h'
theorem ikEq_refl (k : IntKind) : ikEq k k = true := by cases k <;> rfl
theorem part_int {T : Tab} {t : Nat} {k : IntKind} (h : (T t).ty = .int k) (cs : List V) (i : Nat) : partV T t cs i = nth cs i := by
  simp [partV, h, Ty.agg]
theorem eq_int {T : Tab} {t n : Nat} {k κ : IntKind} (h : (T t).ty = .int k) (a b : Int) : eqV T (n + 1) t (.int κ a) (.int κ b) = some (a == b) := by
  simp [eqV, h, ikEq_refl]
theorem drop_eq_of {k k' : List Int} {i : Nat} {a b : Int} (h1 : k[i]? = some a) (h2 : k'[i]? = some b) : ((a == b) && decide (k.drop (i + 1) = k'.drop (i + 1))) = decide (k.drop i = k'.drop i) := by
  obtain ⟨l1, e1⟩ := List.getElem?_eq_some_iff.1 h1
  obtain ⟨l2, e2⟩ := List.getElem?_eq_some_iff.1 h2
  rw [List.drop_eq_getElem_cons l1, List.drop_eq_getElem_cons l2, e1, e2]
  by_cases hab : a = b <;> simp [hab]
theorem rep_len (k : IntKind) (n : Nat) : (rep k n).length = n := by induction n <;> simp [rep, *]
theorem rep_get (k : IntKind) : ∀ (n i : Nat), i < n → (rep k n)[i]? = some k
  | 0, _, h => by omega
  | n + 1, 0, _ => rfl
  | n + 1, i + 1, h => by simp only [rep, List.getElem?_cons_succ]; exact rep_get k n i (by omega)
theorem eqIs_key {T : Tab} {e : Nat} {κ : IntKind} (he : (T e).ty = .int κ) (hs : (T e).size = 1) {ks : List IntKind} {k k' : List Int} (h : k.length = ks.length) (h' : k'.length = ks.length) :
    ∀ (d i m : Nat), i + d = ks.length → d + 2 ≤ m → eqIs T m e (List.range' i d) (keyV ks k) (keyV ks k') = some (decide (k.drop i = k'.drop i))
  | 0, i, m, hi, hm => by
    obtain ⟨m, rfl⟩ : ∃ m', m = m' + 1 := ⟨m - 1, by omega⟩
    simp only [List.range'_zero, eqIs]
    rw [List.drop_eq_nil_of_le (by omega), List.drop_eq_nil_of_le (by omega)]; simp
  | d + 1, i, m, hi, hm => by
    obtain ⟨m, rfl⟩ : ∃ m', m = m' + 1 + 1 := ⟨m - 2, by omega⟩
    have hlt : i < ks.length := by omega
    have g1 := keyV_get i (List.getElem?_eq_getElem hlt) (List.getElem?_eq_getElem (show i < k.length by omega))
    have g2 := keyV_get i (List.getElem?_eq_getElem hlt) (List.getElem?_eq_getElem (show i < k'.length by omega))
    simp only [List.range'_succ, eqIs, hs, Nat.mul_one, part_int he, nth_eq, g1, g2, eq_int he, eqIs_key he hs h h' d (i + 1) (m + 1) (by omega) (by omega)]
    rw [drop_eq_of (List.getElem?_eq_getElem _) (List.getElem?_eq_getElem _)]
theorem fsInt_len {T : Tab} : ∀ {fs : List (Nat × Nat)} {i : Nat} {ks : List IntKind}, fsInt T i fs = some ks → ks.length = fs.length
  | [], i, ks, h => by simp [fsInt] at h; subst h; rfl
  | (off, t) :: fs, i, ks, h => by
    simp only [fsInt] at h
    split at h
    · rename_i k r _ _ hr; cases h; simp [fsInt_len hr]
    · cases h
theorem eqFs_key {T : Tab} {ks : List IntKind} {k k' : List Int} (h : k.length = ks.length) (h' : k'.length = ks.length) :
    ∀ (fs : List (Nat × Nat)) (i m : Nat) (r : List IntKind), fsInt T i fs = some r → i + fs.length = ks.length → fs.length + 2 ≤ m → eqFs T m fs (keyV ks k) (keyV ks k') = some (decide (k.drop i = k'.drop i))
  | [], i, m, r, hf, hi, hm => by
    obtain ⟨m, rfl⟩ : ∃ m', m = m' + 1 := ⟨m - 1, by omega⟩
    simp only [eqFs]
    simp at hi
    rw [List.drop_eq_nil_of_le (by omega), List.drop_eq_nil_of_le (by omega)]; simp
  | (off, t) :: fs, i, m, r, hf, hi, hm => by
    simp only [List.length_cons] at hi hm
    obtain ⟨m, rfl⟩ : ∃ m', m = m' + 1 + 1 := ⟨m - 2, by omega⟩
    simp only [fsInt] at hf
    split at hf
    · rename_i κ r' hoff hty hr'
      have := natEq_eq hoff; subst this
      have hlt : off < ks.length := by omega
      have g1 := keyV_get off (List.getElem?_eq_getElem hlt) (List.getElem?_eq_getElem (show off < k.length by omega))
      have g2 := keyV_get off (List.getElem?_eq_getElem hlt) (List.getElem?_eq_getElem (show off < k'.length by omega))
      simp only [eqFs, part_int hty, nth_eq, g1, g2, eq_int hty, eqFs_key h h' fs (off + 1) (m + 1) r' hr' (by omega) (by omega)]
      rw [drop_eq_of (List.getElem?_eq_getElem _) (List.getElem?_eq_getElem _)]
    · cases hf

theorem check_int {P : Program} {T : Tab} (hT : TOk P T) {t : Nat} {κ : IntKind} (h : (T t).ty = .int κ) (em : Bool) (m : Nat) (x : Value) (w : World) : (Instr.checkKey em (m + 1) t x).run P w = .ok () w := by
  obtain ⟨d, hd, hdo⟩ := under hT (t := t) (by rw [h]; rfl)
  rw [h] at hdo
  cases d <;> simp [DescOk] at hdo
  simp [Instr.checkKey, Sem.run_bind, run_underlying hd]

theorem keyLaw {P : Program} {T : Tab} (hT : TOk P T) {t : Nat} {ag : Bool} {ks : List IntKind} (h : keyTy T t = some (ag, ks)) : KeyLaw P t ag ks := by
  unfold keyTy at h
  split at h
  · rename_i κ hty
    cases h
    refine ⟨fun em k w _ => check_int hT hty em _ _ w, fun k k' w hk hk' => ?_⟩
    obtain ⟨a, rfl⟩ : ∃ a, k = [a] := by match k, hk with | [a], _ => exact ⟨a, rfl⟩
    obtain ⟨b, rfl⟩ : ∃ b, k' = [b] := by match k', hk' with | [b], _ => exact ⟨b, rfl⟩
    have := (run_eqV (ρ := []) (I := fun _ => none) hT 1).1 10000 t (.int κ a) (.int κ b) (.int κ a) (.int κ b) (a == b) w (by omega) (.int _ _) (.int _ _) (eq_int hty a b)
    have e : (a == b) = decide ([a] = [b]) := by by_cases hab : a = b <;> simp [hab]
    rw [e] at this
    exact this
  · rename_i n e hty heq
    split at h
    · rename_i κ he hs
      split at h
      · rename_i hn
        cases h
        have hn := Nat.le_of_ble_eq_true hn
        have hk : (T t).ty.known = true := by rw [hty]; rfl
        have hke : (T e).ty.known = true := by rw [he]; rfl
        obtain ⟨d, hd, hdo⟩ := under hT hk
        rw [hty] at hdo
        cases d <;> simp [DescOk] at hdo
        obtain ⟨rfl, rfl⟩ := hdo
        rename_i n e _
        refine ⟨fun em k w hlen => ?_, fun k k' w hk1 hk2 => ?_⟩
        · rw [rep_len] at hlen
          simp only [keyX]
          rw [show (10000 : Nat) = 9999 + 1 from rfl, Instr.checkKey]
          simp only [Sem.run_bind, run_underlying hd, Result.andThen_ok]
          simp only [Std.Legacy.Range.forIn_eq_forIn_range', Std.Legacy.Range.size, Nat.sub_zero, Nat.add_one_sub_one, Nat.div_one]
          have each : ∀ j, j ∈ List.range' 0 n → j < n := fun j hj => by simp at hj; exact hj
          generalize List.range' 0 n = is at each
          induction is with
          | nil => simp
          | cons j is ih =>
            have hj := each j (by simp)
            have hpart : partV T e (keyV (rep κ n) k) (j * (T e).size) = some (.int κ k[j]) := by
              rw [part_int he, nth_eq, hs, Nat.mul_one]
              exact keyV_get j (rep_get κ n j hj) (by simp [hlen, hj])
            obtain ⟨x, hx, _⟩ := run_part (P := P) (w := w) (ρ := []) (I := fun _ => none) hT (xs := (keyC (rep κ n) k).toArray) (keyV_rel _ _ _ _) hpart
            simp only [List.forIn_cons, Sem.run_bind, run_sizeOf hT hke, Result.andThen_ok, hx, check_int hT he em 9998 x w, Sem.run_pure]
            exact ih fun y hy => each y (by simp [hy])
        · have h0 : eqV T 40 t (.agg (keyV (rep κ n) k)) (.agg (keyV (rep κ n) k')) = some (decide (k = k')) := by
            simp only [eqV, hty, heq, hke]
            rw [List.range_eq_range', eqIs_key he hs hk1 hk2 n 0 39 (by rw [rep_len]; omega) (by omega)]
            simp
          exact (run_eqV (ρ := []) (I := fun _ => none) hT 40).1 10000 t _ _ _ _ _ w (by omega) (.agg _ _ (keyV_rel _ _ _ _)) (.agg _ _ (keyV_rel _ _ _ _)) h0
      · cases h
    · cases h
  · rename_i fs hty heq
    split at h
    · rename_i ks' hks
      split at h
      · rename_i hn
        cases h
        have hn := Nat.le_of_ble_eq_true hn
        rw [len_eq] at hn
        have hlen := fsInt_len hks
        have hk : (T t).ty.known = true := by rw [hty]; rfl
        obtain ⟨d, hd, hdo⟩ := under hT hk
        rw [hty] at hdo
        cases d <;> simp [DescOk] at hdo
        rename_i fields
        have hnames : ∀ f ∈ fields.toList, f.name ≠ "_" := by
          obtain ⟨i', d', g1, g2, g3, g4, g5, g6, g7⟩ := (hT.ok hk).ex
          rw [hd] at g2; cases g2
          exact ((g7 heq).2).2
        refine ⟨fun em k w hlk => ?_, fun k k' w hk1 hk2 => ?_⟩
        · simp only [keyX]
          rw [show (10000 : Nat) = 9999 + 1 from rfl, Instr.checkKey]
          simp only [Sem.run_bind, run_underlying hd, Result.andThen_ok]
          rw [← Array.forIn_toList]
          have key : ∀ (gs : List Field) (i : Nat) (r : List IntKind), fsInt T i (gs.map fun f => (f.offset, f.type)) = some r → i + gs.length = ks.length → (∀ f ∈ gs, f.name ≠ "_") →
              Sem.run P (forIn gs PUnit.unit fun f _ => do
                if f.name ≠ "_" then do Instr.checkKey em 9999 f.type (← part f.type (keyC ks k).toArray f.offset); pure (ForInStep.yield PUnit.unit) else pure (ForInStep.yield PUnit.unit)) w = .ok PUnit.unit w := by
            intro gs
            induction gs with
            | nil => intro i r _ _ _; simp
            | cons f gs ih =>
              intro i r hf hi hnm
              simp only [List.map_cons, fsInt] at hf
              split at hf
              · rename_i κ r' hoff hft hr'
                have hoff := natEq_eq hoff
                simp only [List.length_cons] at hi
                have hlt : f.offset < ks.length := by omega
                have hpart : partV T f.type (keyV ks k) f.offset = some (.int ks[f.offset] k[f.offset]) := by
                  rw [part_int hft, nth_eq]
                  exact keyV_get f.offset (List.getElem?_eq_getElem hlt) (List.getElem?_eq_getElem (by omega))
                obtain ⟨x, hx, _⟩ := run_part (P := P) (w := w) (ρ := []) (I := fun _ => none) hT (xs := (keyC ks k).toArray) (keyV_rel _ _ _ _) hpart
                simp only [List.forIn_cons, Sem.run_bind, hnm f (by simp), ne_eq, not_false_eq_true, if_true, Result.andThen_ok, hx, check_int hT hft em 9998 x w, Sem.run_pure]
                exact ih (i + 1) r' hr' (by omega) (fun y hy => hnm y (by simp [hy]))
              · cases hf
          have := key fields.toList 0 ks (by rw [hdo]; exact hks) (by rw [Nat.zero_add, hlen, ← hdo]; simp) hnames
          simp at this ⊢
          rw [this]; rfl
        · have h0 : eqV T 40 t (.agg (keyV ks k)) (.agg (keyV ks k')) = some (decide (k = k')) := by
            simp only [eqV, hty, heq]
            rw [eqFs_key hk1 hk2 fs 0 39 ks hks (by rw [hlen]; omega) (by omega)]
            simp
          exact (run_eqV (ρ := []) (I := fun _ => none) hT 40).1 10000 t _ _ _ _ _ w (by omega) (.agg _ _ (keyV_rel _ _ _ _)) (.agg _ _ (keyV_rel _ _ _ _)) h0
      · cases h
    · cases h
  · cases h

/-! ### Finding a key -/
theorem EntRel.length {ag ks vk} : ∀ {i : Nat} {m : List (List Int × Int)} {es : List MapEntry}, EntRel ag ks vk i m es → m.length = es.length
  | _, [], [], _ => rfl
  | _, [], _ :: _, h => h.elim
  | _, _ :: _, [], h => h.elim
  | _, (_, _) :: _, _ :: _, h => by simp [EntRel.length h.2.2.2.2]
theorem EntRel.get {ag ks vk} : ∀ {i : Nat} {m : List (List Int × Int)} {es : List MapEntry}, EntRel ag ks vk i m es → ∀ (j : Nat) p, m[j]? = some p → ∃ e, es[j]? = some e ∧ p.1.length = ks.length ∧ e.key = keyX ag ks p.1 ∧ e.val = valX vk p.2 ∧ e.born = i + j
  | _, [], _, _, j, p, h => by simp at h
  | _, _ :: _, [], h, _, _, _ => h.elim
  | i, (k, v) :: m, e :: es, h, 0, p, hp => by
    simp at hp; subst hp
    exact ⟨e, rfl, h.1, h.2.1, h.2.2.1, h.2.2.2.1⟩
  | i, (k, v) :: m, e :: es, h, j + 1, p, hp => by
    obtain ⟨e', h1, h2, h3, h4, h5⟩ := EntRel.get h.2.2.2.2 j p (by simpa using hp)
    exact ⟨e', by simpa using h1, h2, h3, h4, by omega⟩

theorem run_findAskingM {P : Program} {t : Nat} {ag : Bool} {ks : List IntKind} (hl : KeyLaw P t ag ks) {k : List Int} (hk : k.length = ks.length) (w : World) {vk : Sh} :
    ∀ {b : Nat} {m : List (List Int × Int)} {es : List MapEntry} (i : Nat), EntRel ag ks vk b m es → (Instr.findAsking t (keyX ag ks k) es i).run P w = .ok (match findM m k with | some v => some (i + posM m k, valX vk v) | none => none) w
  | _, [], [], i, _ => by simp [Instr.findAsking, findM]
  | _, [], _ :: _, _, h => h.elim
  | _, _ :: _, [], _, h => h.elim
  | b, (k', v) :: m, e :: es, i, h => by
    obtain ⟨h1, h2, h3, h4, h5⟩ := h
    simp only [Instr.findAsking, Sem.run_bind, h2, hl.eq k k' w hk h1, Result.andThen_ok, findM, posM]
    by_cases hkk : k = k'
    · simp [hkk, h3]
    · simp only [hkk, decide_false, Bool.false_eq_true, if_false]
      rw [run_findAskingM hl hk w (i + 1) h5]
      cases hf : findM m k with
      | none => rfl
      | some x => simp [Nat.add_assoc, Nat.add_comm 1]
theorem sameNow_int {κ κ' : IntKind} {a b : Int} : Instr.sameNow (.int κ) (.int κ' a) (.int κ' b) = some (a == b) := by simp [Instr.sameNow]
theorem findNowM {κ κ' : IntKind} {k : List Int} (hk : k.length = 1) {vk : Sh} : ∀ {b : Nat} {m : List (List Int × Int)} {es : List MapEntry} (i : Nat), EntRel false [κ] vk b m es →
    Instr.findNow (.int κ') (keyX false [κ] k) es i = some (match findM m k with | some v => some (i + posM m k, valX vk v) | none => none)
  | _, [], [], i, _ => by simp [Instr.findNow, findM]
  | _, [], _ :: _, _, h => h.elim
  | _, _ :: _, [], _, h => h.elim
  | b, (k', v) :: m, e :: es, i, h => by
    obtain ⟨h1, h2, h3, h4, h5⟩ := h
    obtain ⟨x, rfl⟩ : ∃ x, k = [x] := by match k, hk with | [x], _ => exact ⟨x, rfl⟩
    obtain ⟨y, rfl⟩ : ∃ y, k' = [y] := by match k', h1 with | [y], _ => exact ⟨y, rfl⟩
    have e0 : ∀ z : Int, keyX false [κ] [z] = .int κ z := fun z => rfl
    simp only [Instr.findNow, h2, e0, sameNow_int, findM, posM]
    by_cases hxy : x = y
    · simp [hxy, h3]
    · have hne : (x == y) = false := by simpa using hxy
      have ih := findNowM (κ' := κ') (k := [x]) rfl (i + 1) h5
      rw [e0] at ih
      simp only [hne, ih, List.cons.injEq, hxy, false_and, if_false]
      cases hf : findM m [x] with
      | none => rfl
      | some z => simp [Nat.add_assoc, Nat.add_comm 1]

theorem run_findKeyM {P : Program} {T : Tab} (hT : TOk P T) {t : Nat} {ag : Bool} {ks : List IntKind} (h : keyTy T t = some (ag, ks)) {k : List Int} (hk : k.length = ks.length) (w : World) {vk : Sh} {b : Nat} {m : List (List Int × Int)} {es : List MapEntry} (he : EntRel ag ks vk b m es) :
    (Instr.findKey t (keyX ag ks k) es).run P w = .ok (match findM m k with | some v => some (posM m k, valX vk v) | none => none) w := by
  have hl := keyLaw hT h
  have hask := run_findAskingM hl hk w 0 he
  simp only [Nat.zero_add] at hask
  have hkn : (T t).ty.known = true := by
    unfold keyTy at h
    split at h
    · rename_i hty; rw [hty]; rfl
    · rename_i hty _; rw [hty]; rfl
    · rename_i hty _; rw [hty]; rfl
    · cases h
  obtain ⟨d, hd, hdo⟩ := under hT hkn
  simp only [Instr.findKey, Sem.run_bind, run_underlying hd, Result.andThen_ok]
  unfold keyTy at h
  split at h
  · rename_i κ hty
    cases h
    rw [hty] at hdo
    cases d <;> simp [DescOk] at hdo
    rename_i κ'
    have := findNowM (κ' := κ') hk 0 he
    simp only [Nat.zero_add] at this
    rw [this]; simp
  all_goals
    rename_i hty _
    have hag : ag = true := by
      repeat' (split at h)
      all_goals first | (cases h; rfl) | cases h
    subst hag
    cases es with
    | nil => cases m with
      | nil => simp [Instr.findNow, findM]
      | cons p m => exact he.elim
    | cons e es => cases m with
      | nil => exact he.elim
      | cons p m =>
        obtain ⟨k', v⟩ := p
        have hn : Instr.findNow d (keyX true ks k) (e :: es) 0 = none := by
          have : ∀ x y, Instr.sameNow d (.agg x) (.agg y) = none := fun x y => by cases d <;> rfl
          simp only [Instr.findNow, he.2.1, keyX, this]
        rw [hn]
        exact hask

/-! ### The operations -/
def zeroIs (T : Tab) (e : Nat) (vk : Sh) : Bool :=
  match (T e).ty, vk with
  | .int k, .int k' => match (T e).zero, ikEq k k' with
    | [.int k'' (.ofNat 0)], true => ikEq k k''
    | _, _ => false
  | .bool, .bool => match (T e).zero with
    | [.bool false] => true
    | _ => false
  | _, _ => false
def mapOf (T : Tab) (t : Nat) (L : List Blk) (x : V) : Option (Nat × Bool × List IntKind × Sh × List (List Int × Int)) :=
  match (T t).ty, x with
  | .map kt e, .map tg => match nth L tg, keyTy T kt with
    | some (.map ag ks vk m), some (ag', ks') => match ag, ag', iksEq ks ks', zeroIs T e vk with
      | true, true, true, true => some (tg, ag, ks, vk, m)
      | false, false, true, true => some (tg, ag, ks, vk, m)
      | _, _, _, _ => none
    | _, _ => none
  | _, _ => none
def valOr (m : List (List Int × Int)) (k : List Int) : Int := match findM m k with
  | some v => v
  | none => 0
def hasM (m : List (List Int × Int)) (k : List Int) : Bool := match findM m k with
  | some _ => true
  | none => false
def lookupV (T : Tab) (t : Nat) (L : List Blk) (x ix : V) (ok : Bool) : PR :=
  match mapOf T t L x with
  | some (_, ag, ks, vk, m) => match keyIn ag ks ix with
    | some k => match ok with
      | true => .val (.tup [valV vk (valOr m k), .bool (hasM m k)])
      | false => .val (valV vk (valOr m k))
    | none => .bad
  | none => .bad
def mapUpdateV (T : Tab) (t : Nat) (L : List Blk) (x ix y : V) : PR :=
  match mapOf T t L x with
  | some (tg, ag, ks, vk, m) => match keyIn ag ks ix, valIn vk y with
    | some k, some n => .upd tg (.map ag ks vk (putM m k n))
    | _, _ => .bad
  | none => .bad
def mapEntryV (T : Tab) (t : Nat) (L : List Blk) (x ix : V) : PR :=
  match mapOf T t L x with
  | some (tg, ag, ks, vk, m) => match keyIn ag ks ix with
    | some k => .updv tg (.map ag ks vk (putM m k (valOr m k))) (.tup [valV vk (valOr m k), .int .i64 (posM m k : Int)])
    | none => .bad
  | none => .bad
def entryStoreV (T : Tab) (t : Nat) (L : List Blk) (x st y : V) : PR :=
  match mapOf T t L x, st with
  | some (tg, ag, ks, vk, m), .int _ n => match valIn vk y with
    | some v => .grd (decide (0 ≤ n) && decide (n < (m.length : Int))) (.upd tg (.map ag ks vk (setM m n.toNat v)))
    | none => .bad
  | _, _ => .bad

theorem cells_one {z x : Value} (h : z.oneCell' = true) (hc : z.cells = #[x]) : z = x := by
  cases z <;> simp_all [Value.oneCell', Value.cells]
theorem zeroIs_ok {P : Program} {T : Tab} (hT : TOk P T) {e : Nat} {vk : Sh} (h : zeroIs T e vk = true) (w : World) : (zeroValue e).run P w = .ok (valX vk 0) w := by
  have main : ∀ (hk : (T e).ty.known = true) (v : V) (x : Value), (T e).zero = [v] → (∀ y, Rel [] (fun _ => none) v y → y = x) → (match (T e).ty with | .int _ | .bool | .str => True | _ => False) → (zeroValue e).run P w = .ok x w := by
    intro hk v x hz hx hty
    obtain ⟨i, d, g1, g2, g3, g4, g5, ⟨z, g6, g7, g8⟩, _⟩ := (hT.ok hk).ex
    have hone : z.oneCell' = true := by
      have := (hT.ok hk).one
      split at this
      · exact this i z g1 g6
      · exact this i z g1 g6
      · exact this i z g1 g6
      · split at hty <;> simp_all
    have h8 := g8 [] (fun _ => none)
    rw [hz] at h8
    generalize hzc : z.cells.toList = zc at h8
    cases h8 with | cons _ _ y ys hy hys =>
    cases hys
    have hzx : z.cells = #[y] := by apply Array.ext'; exact hzc
    have : z = x := (cells_one hone hzx).trans (hx y hy)
    simp [zeroValue, run_typeInfo g1, g6, this]
  unfold zeroIs at h
  split at h
  · rename_i k k' hty
    split at h
    · rename_i k'' hz hk
      have := ikEq_eq hk; subst this
      have := ikEq_eq h; subst this
      exact main (by rw [hty]; rfl) _ _ hz (fun y hy => by cases hy; rfl) (by rw [hty]; trivial)
    · cases h
  · rename_i hty
    split at h
    · rename_i hz
      exact main (by rw [hty]; rfl) _ _ hz (fun y hy => by cases hy; rfl) (by rw [hty]; trivial)
    · cases h
  · cases h

structure MapAt (P : Program) (T : Tab) (ρ : List (Option TE)) (L : List Blk) (w : World) (t kt e tg : Nat) (ag : Bool) (ks : List IntKind) (vk : Sh) (m : List (List Int × Int)) (te : TE) (es : Array MapEntry) : Prop where
  ty : P.underlying t = some (.map kt e)
  key : keyTy T kt = some (ag, ks)
  zero : zeroIs T e vk = true
  L : L[tg]? = some (.map ag ks vk m)
  rho : ρ[tg]? = some (some te)
  obj : w.heap[te.b]? = some (.map es es.size)
  ent : EntRel ag ks vk 0 m es.toList
theorem mapOf_ok {P : Program} {T : Tab} (hT : TOk P T) {ρ I L w} (hM : Mod ρ I L w) {t : Nat} {x : V} {X : Value} (hx : Rel ρ I x X) {tg : Nat} {ag : Bool} {ks : List IntKind} {vk : Sh} {m : List (List Int × Int)}
    (h : mapOf T t L x = some (tg, ag, ks, vk, m)) : ∃ kt e te es, X = .map (some te.b) ∧ MapAt P T ρ L w t kt e tg ag ks vk m te es := by
  unfold mapOf at h
  split at h
  · rename_i kt e tg' hty
    split at h
    · rename_i ag1 ks1 vk1 m1 ag2 ks2 hL hkt
      rw [nth_eq] at hL
      obtain ⟨d, hd, hdo⟩ := under hT (t := t) (by rw [hty]; rfl)
      rw [hty] at hdo
      cases d <;> simp [DescOk] at hdo
      obtain ⟨rfl, rfl⟩ := hdo
      cases hx with | map _ te hρ =>
      obtain ⟨o, ho, es, rfl, he⟩ := hM.own _ _ te hL rfl hρ
      split at h
      · rename_i hks hz
        cases h
        have := iksEq_eq hks; subst this
        exact ⟨_, _, te, es, rfl, hd, hkt, hz, hL, hρ, ho, he⟩
      · rename_i hks hz
        cases h
        have := iksEq_eq hks; subst this
        exact ⟨_, _, te, es, rfl, hd, hkt, hz, hL, hρ, ho, he⟩
      · cases h
    · cases h
  · cases h

theorem run_getMap {P : Program} {w : World} {b : Nat} {es : Array MapEntry} {c : Nat} (h : w.heap[b]? = some (.map es c)) : (getObj b).run P w = .ok (.map es c) w := by
  simp [getObj, Sem.run, h]
theorem run_setMap {P : Program} {w : World} {b : Nat} {es : Array MapEntry} {c : Nat} {o' : Obj} (h : w.heap[b]? = some (.map es c)) : (setObj b o').run P w = .ok () { w with heap := w.heap.setIfInBounds b o' } := by
  simp [setObj, Sem.run, h]

theorem lookup_ok {P : Program} {T : Tab} (hT : TOk P T) {ρ I L w} (hM : Mod ρ I L w) {t : Nat} {x ix : V} {X IX : Value} (hx : Rel ρ I x X) (hi : Rel ρ I ix IX) (ok : Bool) (s : Sem Next)
    (hs : s.run P w = ((Instr.lookup t X IX ok).run P w).andThen fun v w' => .ok (.value v) w') : (lookupV T t L x ix ok).Ok P ρ I L w s := by
  unfold lookupV
  split <;> try trivial
  rename_i tg ag ks vk m hm
  obtain ⟨kt, e, te, es, rfl, hA⟩ := mapOf_ok (P := P) hT hM hx hm
  split <;> try trivial
  rename_i k hk
  obtain ⟨hlen, rfl⟩ := keyIn_eq hk hi
  have hf := run_findKeyM hT hA.key hlen w hA.ent
  have hc := (keyLaw hT hA.key).check es.isEmpty k w hlen
  have hrun : ∀ r, (Instr.lookup t (.map (some te.b)) (keyX ag ks k) ok).run P w = .ok r w → s.run P w = .ok (.value r) w := fun r hr => by rw [hs, hr]; rfl
  have hval : (Instr.lookup t (.map (some te.b)) (keyX ag ks k) ok).run P w = .ok (if ok then .tuple #[valX vk (valOr m k), .bool (hasM m k)] else valX vk (valOr m k)) w := by
    simp only [Instr.lookup, Sem.run_bind, run_underlying hA.ty, Result.andThen_ok, run_getMap hA.obj, Sem.run_pure, hc, hf]
    unfold valOr hasM
    cases findM m k with
    | some v => simp
    | none => simp [zeroIs_ok hT hA.zero w]
  cases ok with
  | true => exact ⟨_, .tup _ _ (.cons _ _ _ _ (val_rel ρ I vk _) (.cons _ _ _ _ (.bool _) .nil)), .inl (hrun _ hval)⟩
  | false => exact ⟨_, val_rel ρ I vk _, .inl (hrun _ hval)⟩

theorem findM_get : ∀ {m : List (List Int × Int)} {k : List Int} {v : Int}, findM m k = some v → m[posM m k]? = some (k, v)
  | [], _, _, h => by simp [findM] at h
  | (k', v') :: m, k, v, h => by
    by_cases hk : k = k'
    · simp [findM, hk] at h; simp [posM, hk, h]
    · simp [findM, hk] at h; simp [posM, hk, findM_get h]
theorem putM_some : ∀ {m : List (List Int × Int)} {k : List Int} {v : Int} (n : Int), findM m k = some v → putM m k n = setM m (posM m k) n
  | [], _, _, _, h => by simp [findM] at h
  | (k', v') :: m, k, v, n, h => by
    by_cases hk : k = k'
    · simp [putM, posM, hk, setM]
    · simp [findM, hk] at h; simp [putM, posM, hk, setM, putM_some n h]
theorem putM_none : ∀ {m : List (List Int × Int)} {k : List Int} (n : Int), findM m k = none → putM m k n = m ++ [(k, n)] ∧ posM m k = m.length
  | [], _, _, _ => ⟨rfl, rfl⟩
  | (k', v') :: m, k, n, h => by
    by_cases hk : k = k'
    · simp [findM, hk] at h
    · simp [findM, hk] at h; have := putM_none n h; simp [putM, posM, hk, this]
theorem EntRel.set {ag ks vk} {v : Int} : ∀ {i : Nat} {m : List (List Int × Int)} {es : List MapEntry} (j : Nat), EntRel ag ks vk i m es → EntRel ag ks vk i (setM m j v) (es.modify j fun e => { e with val := valX vk v })
  | _, [], [], _, _ => by simp [setM]; trivial
  | _, [], _ :: _, _, h => h.elim
  | _, _ :: _, [], _, h => h.elim
  | _, (k, _) :: m, e :: es, 0, h => ⟨h.1, h.2.1, rfl, h.2.2.2⟩
  | _, (k, _) :: m, e :: es, j + 1, h => ⟨h.1, h.2.1, h.2.2.1, h.2.2.2.1, EntRel.set j h.2.2.2.2⟩
theorem EntRel.snoc {ag ks vk} {k : List Int} (hk : k.length = ks.length) {v : Int} : ∀ {i : Nat} {m : List (List Int × Int)} {es : List MapEntry}, EntRel ag ks vk i m es → EntRel ag ks vk i (m ++ [(k, v)]) (es ++ [{ key := keyX ag ks k, val := valX vk v, born := i + es.length }])
  | _, [], [], _ => ⟨hk, rfl, rfl, rfl, trivial⟩
  | _, [], _ :: _, h => h.elim
  | _, _ :: _, [], h => h.elim
  | i, (k, _) :: m, e :: es, h => ⟨h.1, h.2.1, h.2.2.1, h.2.2.2.1, by have := EntRel.snoc hk (v := v) h.2.2.2.2; simpa [Nat.add_assoc, Nat.add_comm 1] using this⟩

theorem turn_map {w : World} {b : Nat} {o' : Obj} (hlt : b < w.heap.size) : Turn w b o' { w with heap := w.heap.setIfInBounds b o' } :=
  ⟨by simp [hlt], fun k hk => by simp [Ne.symm hk], by simp, rfl, rfl, rfl⟩
theorem sameBits_int {n : Nat} : ∀ (ks : List IntKind) (k : List Int), ((keyC ks k).zip (keyC ks k)).all (fun p => Instr.sameBits n p.1 p.2) = true
  | [], _ => rfl
  | _ :: _, [] => rfl
  | κ :: ks, a :: k => by
    simp only [keyC, List.zip_cons_cons, List.all_cons, sameBits_int ks k, Bool.and_true]
    cases n <;> simp [Instr.sameBits]
theorem run_stays {P : Program} {w : World} {ag : Bool} {ks : List IntKind} {k : List Int} (hk : k.length = ks.length) (h1 : ag = false → ks.length = 1) : (Instr.keyThatStays (keyX ag ks k) (keyX ag ks k)).run P w = .ok (keyX ag ks k) w := by
  have : Instr.sameBits 10000 (keyX ag ks k) (keyX ag ks k) = true := by
    cases ag with
    | true =>
      simp only [keyX]
      rw [show (10000 : Nat) = 9999 + 1 from rfl, Instr.sameBits]
      simpa using sameBits_int ks k
    | false =>
      obtain ⟨κ, rfl⟩ : ∃ a, ks = [a] := by match ks, h1 rfl with | [a], _ => exact ⟨a, rfl⟩
      obtain ⟨a, rfl⟩ : ∃ a, k = [a] := by match k, hk with | [a], _ => exact ⟨a, rfl⟩
      simp [keyX, keyC, Instr.sameBits]
  simp [Instr.keyThatStays, this]
theorem keyTy_one {T : Tab} {t : Nat} {ag : Bool} {ks : List IntKind} (h : keyTy T t = some (ag, ks)) (ha : ag = false) : ks.length = 1 := by
  unfold keyTy at h
  repeat' (split at h)
  all_goals first | (cases h; first | rfl | cases ha) | cases h

/-- What is behind a map's entry is written, or a new entry made. -/
theorem put_ok {P : Program} {T : Tab} {ρ I L w} {t kt e tg : Nat} {ag ks vk m te es} (hA : MapAt P T ρ L w t kt e tg ag ks vk m te es) {k : List Int} (hlen : k.length = ks.length) (n : Int) :
    (match findM m k with
      | some _ => BRel ρ I te (.map ag ks vk (putM m k n)) (.map (es.modify (posM m k) fun e => { e with key := keyX ag ks k, val := valX vk n }) es.size)
      | none => BRel ρ I te (.map ag ks vk (putM m k n)) (.map (es.push { key := keyX ag ks k, val := valX vk n, born := es.size }) (es.size + 1))) := by
  cases hf : findM m k with
  | some v =>
    obtain ⟨e', h1, h2, h3, h4, h5⟩ := hA.ent.get _ _ (findM_get hf)
    refine ⟨_, by rw [Array.size_modify], ?_⟩
    have := EntRel.set (v := n) (posM m k) hA.ent
    rw [putM_some n hf, Array.toList_modify]
    have he : (es.toList.modify (posM m k) fun e => { e with key := keyX ag ks k, val := valX vk n }) = es.toList.modify (posM m k) fun e => { e with val := valX vk n } := by
      apply List.ext_getElem?
      intro j
      simp only [List.getElem?_modify]
      by_cases hj : posM m k = j
      · subst hj; simp [h1, ← h3]
      · simp [hj]
    rw [he]; exact this
  | none =>
    refine ⟨_, by rw [Array.size_push], ?_⟩
    rw [(putM_none n hf).1, Array.toList_push]
    have := EntRel.snoc hlen (v := n) hA.ent
    simpa using this

theorem mapUpdate_ok {P : Program} {T : Tab} (hT : TOk P T) {ρ I L w} (hM : Mod ρ I L w) {t : Nat} {x ix y : V} {X IX Y : Value} (hx : Rel ρ I x X) (hi : Rel ρ I ix IX) (hy : Rel ρ I y Y) (s : Sem Next)
    (hs : s.run P w = ((Instr.mapUpdate t X IX Y).run P w).andThen fun _ w' => .ok .skip w') : (mapUpdateV T t L x ix y).Ok P ρ I L w s := by
  unfold mapUpdateV
  split <;> try trivial
  rename_i tg ag ks vk m hm
  obtain ⟨kt, e, te, es, rfl, hA⟩ := mapOf_ok (P := P) hT hM hx hm
  split <;> try trivial
  rename_i k n hk hn
  obtain ⟨hlen, rfl⟩ := keyIn_eq hk hi
  have := valIn_eq hn hy; subst this
  have hf := run_findKeyM hT hA.key hlen w hA.ent
  have hc := (keyLaw hT hA.key).check false k w hlen
  have hlt := (Array.getElem?_eq_some_iff.1 hA.obj).1
  have hput := put_ok (I := I) hA hlen n
  cases hfm : findM m k with
  | some v =>
    rw [hfm] at hf hput
    obtain ⟨e', h1, h2, h3, h4, h5⟩ := hA.ent.get _ _ (findM_get hfm)
    have hkey : ((es[posM m k]?).map (·.key)).getD (keyX ag ks k) = keyX ag ks k := by
      have : es[posM m k]? = some e' := by simpa using h1
      rw [this]; simp [h3]
    refine ⟨_, te, _, _, hA.L, rfl, hA.rho, hput, turn_map hlt, .inr ⟨?_, rfl⟩⟩
    rw [hs]
    simp only [Instr.mapUpdate, Sem.run_bind, run_underlying hA.ty, Result.andThen_ok, run_getMap hA.obj, hc, hf, hkey, run_stays hlen (keyTy_one hA.key), run_setMap hA.obj]
  | none =>
    rw [hfm] at hf hput
    refine ⟨_, te, _, _, hA.L, rfl, hA.rho, hput, turn_map hlt, .inr ⟨?_, rfl⟩⟩
    rw [hs]
    simp only [Instr.mapUpdate, Sem.run_bind, run_underlying hA.ty, Result.andThen_ok, run_getMap hA.obj, hc, hf, run_setMap hA.obj]

theorem mapEntry_ok {P : Program} {T : Tab} (hT : TOk P T) {ρ I L w} (hM : Mod ρ I L w) {t : Nat} {x ix : V} {X IX : Value} (hx : Rel ρ I x X) (hi : Rel ρ I ix IX) (s : Sem Next)
    (hs : s.run P w = ((Instr.mapEntry t X IX).run P w).andThen fun v w' => .ok (.value v) w') : (mapEntryV T t L x ix).Ok P ρ I L w s := by
  unfold mapEntryV
  split <;> try trivial
  rename_i tg ag ks vk m hm
  obtain ⟨kt, e, te, es, rfl, hA⟩ := mapOf_ok (P := P) hT hM hx hm
  split <;> try trivial
  rename_i k hk
  obtain ⟨hlen, rfl⟩ := keyIn_eq hk hi
  have hf := run_findKeyM hT hA.key hlen w hA.ent
  have hc := (keyLaw hT hA.key).check false k w hlen
  have hlt := (Array.getElem?_eq_some_iff.1 hA.obj).1
  have hput := put_ok (I := I) hA hlen (valOr m k)
  have hsz := hA.ent.length
  cases hfm : findM m k with
  | some v =>
    rw [hfm] at hf hput
    have hv : valOr m k = v := by simp [valOr, hfm]
    obtain ⟨e', h1, h2, h3, h4, h5⟩ := hA.ent.get _ _ (findM_get hfm)
    have h1' : es[posM m k]? = some e' := by simpa using h1
    have hkey : ((es[posM m k]?).map (·.key)).getD (keyX ag ks k) = keyX ag ks k := by rw [h1']; simp [h3]
    have hmod : (es.modify (posM m k) fun e => { e with key := keyX ag ks k, val := valX vk (valOr m k) }) = es.modify (posM m k) fun e => { e with key := keyX ag ks k } := by
      apply Array.ext'
      simp only [Array.toList_modify]
      apply List.ext_getElem?
      intro j
      simp only [List.getElem?_modify]
      by_cases hj : posM m k = j
      · subst hj; simp [h1, hv, ← h4]
      · simp [hj]
    rw [hmod] at hput
    refine ⟨_, te, _, _, .tuple #[valX vk (valOr m k), .int .i64 (posM m k : Int)], hA.L, rfl, hA.rho, hput, turn_map hlt, .tup _ _ (.cons _ _ _ _ (val_rel ρ I vk _) (.cons _ _ _ _ (.int _ _) .nil)), .inl ?_⟩
    rw [hs]
    simp only [Instr.mapEntry, Sem.run_bind, run_underlying hA.ty, Result.andThen_ok, run_getMap hA.obj, hc, hf, hkey, run_stays hlen (keyTy_one hA.key), run_setMap hA.obj, Sem.run_pure, goInt, hv]
    rw [h1']; simp [h5]
  | none =>
    rw [hfm] at hf hput
    have hv : valOr m k = 0 := by simp [valOr, hfm]
    refine ⟨_, te, _, _, .tuple #[valX vk (valOr m k), .int .i64 (posM m k : Int)], hA.L, rfl, hA.rho, hput, turn_map hlt, .tup _ _ (.cons _ _ _ _ (val_rel ρ I vk _) (.cons _ _ _ _ (.int _ _) .nil)), .inl ?_⟩
    rw [hs]
    have hp : posM m k = es.size := by rw [(putM_none 0 hfm).2, hsz, Array.length_toList]
    simp only [Instr.mapEntry, Sem.run_bind, run_underlying hA.ty, Result.andThen_ok, run_getMap hA.obj, hc, hf, zeroIs_ok hT hA.zero w, run_setMap hA.obj, Sem.run_pure, goInt, hv, hp]

theorem findIdx_born {ag ks vk} {P : MapEntry → Bool} : ∀ {i : Nat} {m : List (List Int × Int)} {es : List MapEntry} (j : Nat), EntRel ag ks vk i m es → j < m.length → (∀ e, P e = decide (e.born = i + j)) → es.findIdx? P = some j
  | _, [], _, j, _, h, _ => by simp at h
  | _, _ :: _, [], _, h, _, _ => h.elim
  | i, (k, v) :: m, e :: es, 0, h, _, hp => by
    rw [List.findIdx?_cons, hp e, h.2.2.2.1]; simp
  | i, (k, v) :: m, e :: es, j + 1, h, hj, hp => by
    have := findIdx_born (P := P) j h.2.2.2.2 (by simpa using hj) (fun e => by rw [hp e]; congr 1; apply propext; omega)
    rw [List.findIdx?_cons, hp e, h.2.2.2.1, this]
    have : ¬ i = i + (j + 1) := by omega
    simp [this]

theorem entryStore_ok {P : Program} {T : Tab} (hT : TOk P T) {ρ I L w} (hM : Mod ρ I L w) {t : Nat} {x ix y : V} {X IX Y : Value} (hx : Rel ρ I x X) (hi : Rel ρ I ix IX) (hy : Rel ρ I y Y) (s : Sem Next)
    (hs : s.run P w = ((Instr.entryStore t X IX Y).run P w).andThen fun _ w' => .ok .skip w') : (entryStoreV T t L x ix y).Ok P ρ I L w s := by
  unfold entryStoreV
  split <;> try trivial
  rename_i tg ag ks vk m κ n hm
  obtain ⟨kt, e, te, es, rfl, hA⟩ := mapOf_ok (P := P) hT hM hx hm
  split <;> try trivial
  rename_i v hn
  have := valIn_eq hn hy; subst this
  intro hg
  simp at hg
  obtain ⟨j, rfl⟩ : ∃ j : Nat, n = j := ⟨n.toNat, by omega⟩
  have hj : j < m.length := by omega
  have hlt := (Array.getElem?_eq_some_iff.1 hA.obj).1
  cases hi
  have hfi : es.findIdx? (fun e => (e.born : Int) == (j : Int)) = some j := by
    rw [show ∀ p : MapEntry → Bool, es.findIdx? p = es.toList.findIdx? p from fun p => by rcases es with ⟨l⟩; simp]
    refine findIdx_born j hA.ent hj fun e => ?_
    rw [Nat.zero_add]
    by_cases he : e.born = j
    · simp [he]
    · have : ¬ (e.born : Int) = (j : Int) := by omega
      simp [he, this]
  refine ⟨_, te, .map (es.modify j fun e => { e with val := valX vk v }) es.size, _, hA.L, rfl, hA.rho, ⟨_, by rw [Array.size_modify], ?_⟩, turn_map hlt, .inr ⟨?_, rfl⟩⟩
  · rw [Array.toList_modify]; exact hA.ent.set (v := v) j
  · rw [hs]
    simp only [Instr.entryStore, Sem.run_bind, Result.andThen_ok, run_getMap hA.obj, asInt, asIntOf, Sem.run_pure, hfi, run_setMap hA.obj]

/-! ### Ranges over texts and maps -/
def keyVV (ag : Bool) (ks : List IntKind) (k : List Int) : V :=
  match ag with
  | true => .agg (keyV ks k)
  | false => match keyV ks k with
    | [x] => x
    | _ => .tup []
theorem keyVV_rel (ρ I) (ag : Bool) (ks : List IntKind) (k : List Int) : Rel ρ I (keyVV ag ks k) (keyX ag ks k) := by
  have h := keyV_rel ρ I ks k
  cases ag with
  | true => exact .agg _ _ h
  | false =>
    cases ks with
    | nil => exact .tup _ _ .nil
    | cons a ks => cases k with
      | nil => exact .tup _ _ .nil
      | cons b k => cases ks with
        | nil => exact .int _ _
        | cons c ks => cases k with
          | nil => exact .int _ _
          | cons d k => exact .tup _ _ .nil
def rangeV (T : Tab) (t : Nat) (L : List Blk) (x : V) : PR :=
  match (T t).ty, x with
  | .str, .str l => .new (.siter l 0) 1 1 1 (fun t => .ptr t 0 0)
  | .map _ _, .map tg => match nth L tg with
    | some (.map _ _ _ m) => .new (.miter tg [] m.length) 1 1 1 (fun t => .ptr t 0 0)
    | _ => .bad
  | _, _ => .bad
def runeAt (l : List UInt8) (pos : Nat) : Nat × Nat := Utf8.decode ⟨l.toArray⟩ pos
def nextV (L : List Blk) (x : V) (isString : Bool) : PR :=
  match x, isString with
  | .ptr b 0 0, true => match nth L b with
    | some (.siter l pos) => .br (Nat.blt pos l.length) (.updv b (.siter l (pos + (runeAt l pos).2)) (.tup [.bool true, .int .i64 (pos : Int), .int .i32 ((runeAt l pos).1 : Int)])) (.val (.tup [.bool false]))
    | _ => .bad
  | .ptr b 0 0, false => match nth L b with
    | some (.miter mt seen n) => match nth L mt with
      | some (.map ag ks vk m) => .grd (natEq n m.length) (.all (fun i => match i with
          | 0 => ∀ j, j < m.length → j ∈ seen
          | i + 1 => i < m.length ∧ i ∉ seen) (fun i => match i with
          | 0 => .val (.tup [.bool false])
          | i + 1 => match nth m i with
            | some (k, v) => .updv b (.miter mt (seen ++ [i]) n) (.tup [.bool true, keyVV ag ks k, valV vk v])
            | none => .bad))
      | _ => .bad
    | _ => .bad
  | _, _ => .bad
theorem range_ok {P : Program} {T : Tab} (hT : TOk P T) {ρ I L w} (hM : Mod ρ I L w) {t : Nat} {x : V} {X : Value} (hx : Rel ρ I x X) (s : Sem Next)
    (hs : s.run P w = ((Instr.range t X).run P w).andThen fun v w' => .ok (.value v) w') : (rangeV T t L x).Ok P ρ I L w s := by
  have fin : ∀ (b : Blk) (o : Obj), (∀ ρ', TEs.le ρ ρ' → BRel ρ' I ⟨w.heap.size, 0, 1, 1, 1⟩ b o) → (Instr.range t X).run P w = .ok (.pointer (some ⟨w.heap.size, 0, none⟩)) (w.alloc o) → (PR.new b 1 1 1 (fun t => .ptr t 0 0)).Ok P ρ I L w s := by
    intro b o hb hrun
    refine ⟨o, _, .inl (by rw [hs, hrun]; rfl), fun ρ' t' hρ ht => ⟨hb ρ' hρ, ?_⟩⟩
    have := Rel.ptr (ρ := ρ') (I := I) t' 0 0 _ ht (by simp)
    simpa using this
  unfold rangeV
  split <;> try trivial
  · rename_i l hty
    obtain ⟨d, hd, hdo⟩ := under hT (t := t) (by rw [hty]; rfl)
    rw [hty] at hdo
    cases d <;> simp [DescOk] at hdo
    cases hx; rename_i sb hsb
    refine fin _ (.stringIter sb 0) (fun ρ' _ => ⟨rfl, sb, hsb, rfl⟩) ?_
    simp [Instr.range, Sem.run_bind, run_underlying hd, newObj, Sem.run]
  · rename_i kt e tg hty
    split <;> try trivial
    rename_i ag ks vk m hL
    rw [nth_eq] at hL
    obtain ⟨d, hd, hdo⟩ := under hT (t := t) (by rw [hty]; rfl)
    rw [hty] at hdo
    cases d <;> simp [DescOk] at hdo
    cases hx with | map _ te hρ =>
    obtain ⟨o, ho, es, rfl, he⟩ := hM.own _ _ te hL rfl hρ
    have hlen := he.length
    refine fin _ (.mapIter (some te.b) es.size #[] es.size) (fun ρ' hle => ⟨rfl, te, hle _ _ hρ, by rw [hlen]; simp⟩) ?_
    simp [Instr.range, Sem.run_bind, run_underlying hd, run_getMap ho, newObj]
    rfl

theorem run_ptrObj {P : Program} {w : World} {b : Nat} {o : Obj} (h : w.heap[b]? = some o) (hc : ∀ c e f, o ≠ .cells c e f) : (getObj b).run P w = .ok o w := by
  cases o <;> simp [getObj, Sem.run, h]
  exact absurd rfl (hc _ _ _)
theorem mem_born {ag ks vk} : ∀ {i : Nat} {m : List (List Int × Int)} {es : List MapEntry}, EntRel ag ks vk i m es → ∀ e ∈ es, i ≤ e.born ∧ e.born < i + es.length
  | _, [], [], _, e, he => by simp at he
  | _, [], _ :: _, h, _, _ => h.elim
  | _, _ :: _, [], h, _, _ => h.elim
  | i, (k, v) :: m, e0 :: es, h, e, he => by
    rcases List.mem_cons.1 he with rfl | he
    · have := h.2.2.2.1; simp; omega
    · have := mem_born h.2.2.2.2 e he; simp; omega
theorem run_setIter {P : Program} {w : World} {b : Nat} {o o' : Obj} (h : w.heap[b]? = some o) (hc : ∀ c e f, o ≠ .cells c e f) : (setObj b o').run P w = .ok () { w with heap := w.heap.setIfInBounds b o' } := by
  cases o <;> simp [setObj, Sem.run, h]
  exact absurd rfl (hc _ _ _)

theorem next_ok {P : Program} {ρ I L w} (hM : Mod ρ I L w) {x : V} {X : Value} (hx : Rel ρ I x X) (isS : Bool) (ty : Nat) (s : Sem Next)
    (hs : s.run P w = ((Instr.next X isS ty).run P w).andThen fun v w' => .ok (.value v) w') : (nextV L x isS).Ok P ρ I L w s := by
  unfold nextV
  split <;> try trivial
  · rename_i b
    split <;> try trivial
    rename_i l pos hL
    rw [nth_eq] at hL
    cases hx with | ptr _ _ _ te hρ hi =>
    obtain ⟨o, ho, h0, sb, hsb, rfl⟩ := hM.own _ _ te hL rfl hρ
    have hlt := (Array.getElem?_eq_some_iff.1 ho).1
    have hob := run_ptrObj (P := P) ho (by simp)
    have hsz : sb.size = l.length := by rw [← hsb, Array.length_toList]; rfl
    have hdec : Utf8.decode sb pos = runeAt l pos := by
      have : sb = ⟨l.toArray⟩ := by rw [← hsb]
      rw [this]; rfl
    refine ⟨fun hc => ?_, fun hc => ?_⟩
    · have hp : pos < sb.size := by rw [hsz]; have := Nat.le_of_ble_eq_true hc; omega
      refine ⟨_, te, .stringIter sb (pos + (runeAt l pos).2), _, .tuple #[.bool true, .int .i64 (pos : Int), .int .i32 ((runeAt l pos).1 : Int)], hL, rfl, hρ, ⟨h0, sb, hsb, rfl⟩, turn_map hlt,
        .tup _ _ (.cons _ _ _ _ (.bool _) (.cons _ _ _ _ (.int _ _) (.cons _ _ _ _ (.int _ _) .nil))), .inl ?_⟩
      rw [hs]
      have hset := run_setIter (P := P) (o' := .stringIter sb (pos + (runeAt l pos).2)) ho (by simp)
      simp only [Instr.next, h0, Nat.zero_mul, Nat.add_zero, Sem.run_bind, hob, Result.andThen_ok, hp, if_true, hdec, hset, Sem.run_pure, goInt]
    · have hp : ¬ pos < sb.size := by
        rw [hsz]; intro h
        have : Nat.blt pos l.length = true := Nat.ble_eq.mpr h
        rw [this] at hc; cases hc
      refine ⟨.tuple #[.bool false], .tup _ _ (.cons _ _ _ _ (.bool _) .nil), .inl ?_⟩
      rw [hs]
      simp only [Instr.next, h0, Nat.zero_mul, Nat.add_zero, Sem.run_bind, hob, Result.andThen_ok, hp, if_false, Sem.run_pure]
  · rename_i b
    split <;> try trivial
    rename_i mt seen n hL
    split <;> try trivial
    rename_i ag ks vk m hLm
    intro hn
    have hn := natEq_eq hn
    rw [nth_eq] at hL hLm
    cases hx with | ptr _ _ _ te hρ hi =>
    obtain ⟨o, ho, h0, te', hρ', rfl⟩ := hM.own _ _ te hL rfl hρ
    obtain ⟨om, hom, es, rfl, hent⟩ := hM.own _ _ te' hLm rfl hρ'
    have hlt := (Array.getElem?_eq_some_iff.1 ho).1
    have hob := run_ptrObj (P := P) ho (by simp)
    have hlen := hent.length
    have hsz : m.length = es.size := by rw [hlen]; simp
    subst hn
    -- what the model looks at
    have hall : (!seen.toArray.isEmpty && !es.isEmpty && es.all (fun e => decide (e.born ≥ m.length))) = false := by
      by_cases he : es.isEmpty = true
      · simp [he]
      · have : es.all (fun e => decide (e.born ≥ m.length)) = false := by
          rw [Array.all_eq_false]
          have h1 : 0 < es.size := by
            rcases Nat.eq_zero_or_pos es.size with h | h
            · exact absurd (Array.isEmpty_iff_size_eq_zero.2 h) he
            · exact h
          refine ⟨0, h1, ?_⟩
          have := mem_born hent es[0] (by simp)
          simp at this ⊢; omega
        simp [this]
    have hnew : ((es.filter fun e => !seen.toArray.contains e.born).filter fun e => decide (e.born ≥ m.length)) = #[] := by
      rw [Array.filter_eq_empty_iff]
      intro e he
      have := mem_born hent e (by have := (Array.mem_filter.1 he).1; exact Array.mem_toList_iff.2 this)
      simp at this ⊢; omega
    have hold : ((es.filter fun e => !seen.toArray.contains e.born).filter fun e => decide (e.born < m.length)) = es.filter fun e => !seen.toArray.contains e.born := by
      rw [Array.filter_eq_self]
      intro e he
      have := mem_born hent e (by have := (Array.mem_filter.1 he).1; exact Array.mem_toList_iff.2 this)
      simp at this ⊢; omega
    obtain ⟨C, hC⟩ : ∃ C, C = es.filter fun e : MapEntry => !seen.toArray.contains e.born := ⟨_, rfl⟩
    have hnext : (Instr.next (.pointer (some ⟨te.b, te.o + 0 * te.sz + 0, none⟩)) false ty).run P w = (do
        let c ← choose (.mapNext ((if C.isEmpty then #[none] else #[]) ++ C.map some).size)
        match ((if C.isEmpty then #[none] else #[]) ++ C.map some)[c]? with
        | some (some e) => do
          setObj te.b (.mapIter (some te'.b) m.length (seen.toArray.push e.born) es.size)
          pure (.tuple #[.bool true, e.key, e.val])
        | some none => pure (.tuple #[.bool false])
        | none => stuck "Next: no such candidate" : Sem Value).run P w := by
      rw [hC]
      simp only [Instr.next, h0, Nat.zero_mul, Nat.add_zero]
      rw [Sem.run_bind, hob, Result.andThen_ok]
      simp only []
      rw [Sem.run_bind, run_getMap hom, Result.andThen_ok]
      simp only [hall, hold, hnew, Bool.false_eq_true, if_false, Array.append_empty, Sem.run_bind, Sem.run_pure, Result.andThen_ok]
      rfl
    by_cases hem : C.isEmpty = true
    · refine ⟨0, ?_, .tuple #[.bool false], .tup _ _ (.cons _ _ _ _ (.bool _) .nil), .inl ?_⟩
      · intro j hj
        obtain ⟨e, g1, g2, g3, g4, g5⟩ := hent.get j _ (List.getElem?_eq_getElem hj)
        have hC0 : C = #[] := Array.isEmpty_iff.1 hem
        rw [hC, Array.filter_eq_empty_iff] at hC0
        have := hC0 e (by rw [← Array.mem_toList_iff]; exact List.mem_of_getElem? g1)
        simp at this
        rw [g5] at this; simpa using this
      · have hC0 : C = #[] := Array.isEmpty_iff.1 hem
        rw [hs, hnext, hC0]
        simp [Question.forced]
    · have hne : C.isEmpty = false := by simpa using hem
      have hpos : 0 < C.size := by
        rcases Nat.eq_zero_or_pos C.size with h | h
        · exact absurd (Array.isEmpty_iff_size_eq_zero.2 h) hem
        · exact h
      have hcand : ((if C.isEmpty then #[none] else #[]) ++ C.map some : Array (Option MapEntry)) = C.map some := by rw [hne]; simp
      rw [hcand] at hnext
      obtain ⟨c, w1, hc, hch, hh, hos, htp, hout⟩ : ∃ c w1, c < C.size ∧ (choose (.mapNext (C.map some).size)).run P w = .ok c w1 ∧ w1.heap = w.heap ∧ w1.os = w.os ∧ w1.tape = w.tape ∧ w1.output = w.output := by
        rw [run_choose]
        by_cases hf : (Question.mapNext (C.map some).size).forced = true
        · exact ⟨0, w, hpos, by rw [if_pos hf], rfl, rfl, rfl, rfl⟩
        · refine ⟨_, { w with drawn := w.drawn + 1 }, ?_, by rw [if_neg hf], rfl, rfl, rfl, rfl⟩
          simp only [Question.cut, Array.size_map]
          exact Nat.mod_lt _ hpos
      have hce : (C.map some)[c]? = some (some C[c]) := by simp [hc]
      have hmem : C[c] ∈ es.filter fun e : MapEntry => !seen.toArray.contains e.born := by rw [← hC]; simp
      obtain ⟨hm1, hm2⟩ := Array.mem_filter.1 hmem
      generalize C[c] = e at hce hm1 hm2
      have hb := mem_born hent e (Array.mem_toList_iff.2 hm1)
      have hbl : e.born < m.length := by rw [hlen]; omega
      obtain ⟨e', g1, g2, g3, g4, g5⟩ := hent.get e.born _ (List.getElem?_eq_getElem hbl)
      have hee : e = e' := by
        obtain ⟨j, hj⟩ := List.mem_iff_getElem?.1 (Array.mem_toList_iff.2 hm1)
        have hjl : j < m.length := by rw [hlen]; exact (List.getElem?_eq_some_iff.1 hj).1
        obtain ⟨e2, q1, q2, q3, q4, q5⟩ := hent.get j _ (List.getElem?_eq_getElem hjl)
        rw [hj] at q1; cases q1
        have : j = e.born := by omega
        rw [← this] at g1
        rw [hj] at g1; cases g1; rfl
      subst hee
      refine ⟨e.born + 1, ⟨hbl, by simpa using hm2⟩, ?_⟩
      simp only [nth_eq, List.getElem?_eq_getElem hbl]
      have hset : (setObj te.b (.mapIter (some te'.b) m.length (seen.toArray.push e.born) es.size)).run P w1 = .ok () { w1 with heap := w1.heap.setIfInBounds te.b (.mapIter (some te'.b) m.length (seen.toArray.push e.born) es.size) } :=
        run_setIter (by rw [hh]; exact ho) (by simp)
      refine ⟨_, te, .mapIter (some te'.b) m.length (seen.toArray.push e.born) es.size, { w1 with heap := w1.heap.setIfInBounds te.b (.mapIter (some te'.b) m.length (seen.toArray.push e.born) es.size) }, .tuple #[.bool true, e.key, e.val], hL, rfl, hρ, ⟨h0, te', hρ', by rw [hsz]; simp⟩,
        ⟨by simp [hh, hlt], fun k hk => by simp [hh, Ne.symm hk], by simp [hh], hos, htp, hout⟩,
        .tup _ _ (.cons _ _ _ _ (.bool _) (.cons _ _ _ _ (by rw [g3]; exact keyVV_rel _ _ _ _ _) (.cons _ _ _ _ (by rw [g4]; exact val_rel _ _ _ _) .nil))), .inl ?_⟩
      rw [hs, hnext, Sem.run_bind, hch, Result.andThen_ok, hce]
      simp only [Sem.run_bind, hset, Result.andThen_ok, Sem.run_pure]

end Go.Vx
