/- All plain operations in one function, and that the model does what it says. Functions that only compute: contracts on plain data; what a value is when its memory is left alone for good. -/
import Derived.Test.YtkhbmendaapojaaGreatDoorPkBa5
import Derived.RangeFuncLeaves
set_option linter.unusedSimpArgs false
set_option linter.unusedVariables false
/- All plain operations in one function, and that the model does what it says. -/
namespace Go.Vx
open Go Go.RowKit

theorem sliceArr_ok {P : Program} {T : Tab} (hT : TOk P T) {ρ I L} {w : World} (hM : Mod ρ I L w) {t : Nat} {u : V} {x : Value} {lo hi mx : Option V} {xlo xhi xmx : Option Value} (hu : Rel ρ I u x)
    (hfix : ∀ (b i sub : Nat), u = .ptr b i sub → ∃ e' cs, L[b]? = some (.fix e' cs) ∧ ∀ n e, (T t).ty = .array n e → sub + n * (T e).size ≤ cs.length)
    (hlo : match lo, xlo with | none, none => True | some u, some x => Rel ρ I u x | _, _ => False) (hhi : match hi, xhi with | none, none => True | some u, some x => Rel ρ I u x | _, _ => False)
    (hmx : match mx, xmx with | none, none => True | some u, some x => Rel ρ I u x | _, _ => False) (s : Sem Next)
    (hs : s.run P w = ((Instr.sliceAt t x xlo xhi xmx).run P w).andThen fun v w' => .ok (.value v) w') : (sliceArrV T t u lo hi mx).Ok P ρ I L w s := by
  unfold sliceArrV
  split <;> try trivial
  have hmx' : xmx = none := by cases xmx with | none => rfl | some => exact hmx.elim
  subst hmx'
  split <;> try trivial
  rename_i n e b sub hty
  have hk : (T t).ty.known = true := by rw [hty]; rfl
  obtain ⟨d, hd, hdo⟩ := under hT hk
  rw [hty] at hdo
  cases d <;> simp [DescOk] at hdo
  obtain ⟨rfl, rfl⟩ := hdo
  rename_i n e
  split <;> try trivial
  rename_i a h hke ha hb
  intro hc
  have hg := guard3 hc
  obtain ⟨e', cs, hL, hcs⟩ := hfix b 0 sub rfl
  have hsub := hcs n e hty
  cases hu with | ptr _ _ _ te hρ hi0 =>
  obtain ⟨o, ho, hbr⟩ := hM.own b _ te hL rfl hρ
  obtain ⟨⟨arr, el, _, h2, h3, h4⟩, hn1, _⟩ := hbr
  have hsz : cs.length = te.sz := (h4 0 (by omega)).1
  have hr := run_bounds (P := P) (w := w) (isSl := false) (cp := n) hlo hhi ha hb hg (Nat.le_refl _)
  have hmul : a.toNat * (T e).size + (n - a.toNat) * (T e).size = n * (T e).size := by rw [← Nat.add_mul]; congr 1; omega
  refine ⟨.slice (some (if n = a.toNat then ⟨te.b, te.o + 0 * te.sz + sub, none⟩ else ⟨te.b, te.o + 0 * te.sz + sub + a.toNat * (T e).size, none⟩)) (h.toNat - a.toNat) (n - a.toNat), ?_, .inl ?_⟩
  · by_cases hca : n = a.toNat
    · rw [if_pos hca]
      exact .slf _ _ _ _ _ te _ hρ hn1 (by omega) (by omega) (fun h0 => by omega)
    · rw [if_neg hca]
      exact .slf _ _ _ _ _ te _ hρ hn1 (by omega) (by omega) (fun h0 => by omega)
  · rw [hs]
    simp only [Instr.sliceAt, Instr.sureAddr, Sem.run_bind, run_underlying hd, Result.andThen_ok, Sem.run_pure, hr, run_sizeOf hT hke, addr_add]

def sliceArrG (T : Tab) (t : Nat) (L : List Blk) (x : V) (lo hi mx : Option V) : PR :=
  match (T t).ty, x with
  | .array n e, .ptr b _ sub => match nth L b with
    | some (.fix _ cs) => .grd (decide (sub + n * (T e).size ≤ len cs)) (sliceArrV T t x lo hi mx)
    | _ => .bad
  | _, _ => .bad

def pickV (c : Bool) (a b : V) : PR :=
  match a, b with
  | .bool x, .bool y => .val (.bool (cond c x y))
  | x, y => match c with
    | true => .val x
    | false => .val y

def lenV (T : Tab) (L : List Blk) (t : Nat) (v : V) : PR :=
  match (T t).ty, v with
  | .str, .str l => .val (.int .i64 (l.length : Int))
  | .array n _, _ => .val (.int .i64 (n : Int))
  | .slice _, .nilSl => .val (.int .i64 0)
  | .slice _, .sl _ _ _ n _ => .val (.int .i64 (n : Int))
  | .slice _, .slf _ _ _ n _ => .val (.int .i64 (n : Int))
  | .slice _, .ro _ n _ => .val (.int .i64 (n : Int))
  | .map _ _, .nilMap => .val (.int .i64 0)
  | .map _ _, .map t => match nth L t with
    | some (.map _ _ _ m) => .val (.int .i64 (m.length : Int))
    | _ => .bad
  | _, _ => .bad

def minInts (k : IntKind) (a : Int) : List V → Option Int
  | [] => some a
  | .int k' b :: l => match ikEq k k' with
    | true => minInts k (if b < a then b else a) l
    | false => none
  | _ => none
def maxInts (k : IntKind) (a : Int) : List V → Option Int
  | [] => some a
  | .int k' b :: l => match ikEq k k' with
    | true => maxInts k (if a < b then b else a) l
    | false => none
  | _ => none

def convV (T : Tab) (src dst : Nat) (v : V) : PR :=
  match (T src).ty, (T dst).ty, v with
  | .int _, .int k, .int _ n => .val (.int k (k.wrap n))
  | .str, .str, .str l => .val (.str l)
  | _, _, _ => .bad

def unV (op : UnOp) (v : V) : PR :=
  match op, v with
  | .neg, .int k n => .val (.int k (k.wrap (0 - n)))
  | .not, .bool b => .val (.bool (!b))
  | _, _ => .bad

def intSh : List V → Option (List IntKind)
  | [] => some []
  | .int k _ :: l => match intSh l with
    | some r => some (k :: r)
    | none => none
  | _ => none

def builtinV (T : Tab) (L : List Blk) (b : Builtin) (ts : List Nat) (vs : List V) : PR :=
  match b, ts, vs with
  | .len, t :: _, v :: _ => lenV T L t v
  | .min, _, .int k a :: l => match minInts k a l with
    | some r => .val (.int k r)
    | none => .bad
  | .max, _, .int k a :: l => match maxInts k a l with
    | some r => .val (.int k r)
    | none => .bad
  | .append, [st, tx], [s, x] => appendV T L st tx s x
  | .copy, [st, tx], [s, x] => copyV T L st tx s x
  | .unsafeSliceData, _, [x] => sliceDataV x
  | .unsafeString, [pt, _], [x, n] => unsafeStrV T L pt x n
  | _, _, _ => .bad

/-- A nil value of an interface type held against the literal nil. -/
def nilCmp (T : Tab) (op : BinOp) (t : Nat) (y : Operand) (u : V) : Option Bool :=
  match op, (T t).ty, y, u with
  | .eql, .iface, .const .nilIface, .nilIface => some true
  | .neq, .iface, .const .nilIface, .nilIface => some false
  | _, _, _, _ => none

def shTy (T : Tab) (t : Nat) : Option Sh :=
  match (T t).ty with
  | .map _ e => match (T e).ty with
    | .int k => some (.int k)
    | .bool => some .bool
    | _ => none
  | _ => none
/-- One plain operation. -/
def prim (T : Tab) (tm : List V) (L : List Blk) (op : Op) : PR :=
  match op with
  | .move x => .val (evO tm x)
  | .assign x => .val (evO tm x)
  | .pick c a b => match evO tm c with
    | .bool c => pickV c (evO tm a) (evO tm b)
    | _ => .bad
  | .alloc e => match (T e).ty.known with
    | true => newFix e (T e).zero (fun t => .ptr t 0 0)
    | false => .bad
  | .box e x => match cellsV (evO tm x) with
    | some cs => newFix e cs (fun t => .ptr t 0 0)
    | none => .bad
  | .build t parts => match buildV T t (parts.toList.map fun p => (p.1, evO tm p.2)) with
    | some cs => .val (.agg cs)
    | none => .bad
  | .buildSlice t n parts => match (T t).ty with
    | .slice e => match (T e).ty.known, (T e).size with
      | true, sz + 1 => match fillV (fun i => some (i * (sz + 1), sz + 1)) (List.flatten (List.replicate n (T e).zero)) (parts.toList.map fun p => (p.1, evO tm p.2)) with
        | some cs => .grd (decide (n * (sz + 1) ≤ 16777216)) (match shOf (T e).zero with
          | some sh => match rowsOk sh (sz + 1) n cs with
            | true => .new (.arr e sh (fun i c => cInt (nthV cs (i * (sz + 1) + c))) (fun i c => cBool (nthV cs (i * (sz + 1) + c))) (fun i c => cStr (nthV cs (i * (sz + 1) + c)))) n n (sz + 1) (fun t => .sl t (sz + 1) 0 n n)
            | false => .bad
          | none => newFix e cs (fun t => .slf t (sz + 1) 0 n n))
        | none => .bad
      | _, _ => .bad
    | _ => .bad
  | .load t x => match ptrLoad T t L (evO tm x) with
    | some v => .val v
    | none => .bad
  | .store t x y => match evO tm x with
    | .ptr b i sub => match (T t).ty.known, cellsV (evO tm y), nth L b with
      | true, some vs, some blk => match lenIs (T t).size vs, storeV blk i sub vs with
        | true, some blk' => .upd b blk'
        | _, _ => .bad
      | _, _, _ => .bad
    | _ => .bad
  | .nilCheck x => match evO tm x with
    | .ptr b i sub => .val (.ptr b i sub)
    | .ep a b c d e => .val (.ep a b c d e)
    | .fn (.func f) caps => .val (.fn (.func f) caps)
    | _ => .bad
  | .binOp op t x y _ => match nilCmp T op t y (evO tm x) with
    | some b => .val (.bool b)
    | none => match cmpV T op t (evO tm x) (evO tm y) with
      | some pr => pr
      | none => binV T op t (evO tm x) (evO tm y)
  | .unOp op _ x => unV op (evO tm x)
  | .convert s d x => match (T s).ty, (T d).ty with
    | .slice _, .str => bytesStrV T L s (evO tm x)
    | _, _ => convV T s d (evO tm x)
  | .makeInterface t x => match (T t).ty with
    | .iface => .bad
    | .other => .bad
    | _ => .val (.iface t (evO tm x))
  | .makeFunc f first caps => match first.toList with
    | [] => .val (.fn f (caps.toList.map (evO tm)))
    | _ => .bad
  | .makeMap t r => match r, (T t).ty with
    | none, .map k _ => match keyTy T k, shTy T t with
      | some (ag, ks), some vk => .new (.map ag ks vk []) 0 0 0 (fun t => .map t)
      | _, _ => .bad
    | _, _ => .bad
  | .lookup t x i ok => lookupV T t L (evO tm x) (evO tm i) ok
  | .mapUpdate t x k v => mapUpdateV T t L (evO tm x) (evO tm k) (evO tm v)
  | .mapEntry t x k => mapEntryV T t L (evO tm x) (evO tm k)
  | .entryStore t x k v => entryStoreV T t L (evO tm x) (evO tm k) (evO tm v)
  | .range t x => rangeV T t L (evO tm x)
  | .makeSlice t l c => makeSliceV T t (evO tm l) (evO tm c)
  | .slice t x lo hi mx => match (T t).ty with
    | .array _ _ => sliceArrG T t L (evO tm x) (lo.map (evO tm)) (hi.map (evO tm)) (mx.map (evO tm))
    | _ => sliceV T t (evO tm x) (lo.map (evO tm)) (hi.map (evO tm)) (mx.map (evO tm))
  | .fieldAddr t x f => fieldAddrV T t (evO tm x) f
  | .field t x f => fieldV T t (evO tm x) f
  | .indexAddr t x i => indexAddrG T t (evO tm x) (evO tm i)
  | .index t x i => indexV T t (evO tm x) (evO tm i)
  | .extract x i => match evO tm x with
    | .tup l => match nth l i with
      | some v => .val v
      | none => .bad
    | _ => .bad
  | .call { callee := .builtin b, args, argTypes } => builtinV T L b argTypes.toList (args.toList.map (evO tm))
  | _ => .bad

theorem relOpt {ρ I} {tm : List V} {a : Act} (h : Rels ρ I tm a.tmps.toList) (o : Option Operand) :
    match o.map (evO tm), o.map a.eval with | none, none => True | some u, some x => Rel ρ I u x | _, _ => False := by
  cases o with
  | none => trivial
  | some x => exact rel_evO h x
theorem relsMap {ρ I} {tm : List V} {a : Act} (h : Rels ρ I tm a.tmps.toList) (l : List Operand) : Rels ρ I (l.map (evO tm)) (l.map a.eval) := by
  induction l with
  | nil => exact .nil
  | cons x l ih => exact .cons _ _ _ _ (rel_evO h x) ih

theorem Rel.boolInv {ρ I} {b : Bool} {x : Value} (h : Rel ρ I (.bool b) x) : x = .bool b := by cases h; rfl

theorem newFix_ok {P : Program} {ρ I L} {w : World} {cs : List V} {xs : Array Value} {el : Nat} {v : Nat → V} {x : Value} {s : Sem Next} (h : Rels ρ I cs xs.toList)
    (hv : ∀ (ρ' : List (Option TE)) (t : Nat) (te : TE), ρ'[t]? = some (some te) → te.b = w.heap.size → te.o = 0 → te.sz = cs.length → te.n = 1 → Rel ρ' I (v t) x) (hs : s.run P w = .ok (.value x) (w.alloc (.cells xs el))) :
    (newFix el cs v).Ok P ρ I L w s := by
  refine ⟨.cells xs el, x, .inl hs, fun ρ' t hρ ht => ⟨?_, hv ρ' t _ ht rfl rfl (len_eq cs) rfl⟩⟩
  rw [len_eq]
  exact fixRel hρ h

theorem run_min {P : Program} {w : World} {k : IntKind} {ρ I} : ∀ {l : List V} {xs : List Value} {a r : Int}, Rels ρ I l xs → minInts k a l = some r → (xs.foldlM Builtin.min2 (.int k a)).run P w = .ok (.int k r) w
  | [], _, a, r, h, hm => by cases h; simp [minInts] at hm; subst hm; simp
  | v :: l, _, a, r, h, hm => by
    cases h with | cons _ _ x xs hv hs =>
    cases v <;> simp only [minInts] at hm <;> try (cases hm; done)
    split at hm
    · rename_i hk; have := ikEq_eq hk; subst this
      cases hv
      simp only [List.foldlM_cons, Sem.run_bind, Builtin.min2, Sem.run_pure, Result.andThen_ok]
      exact run_min hs hm
    · cases hm
theorem run_max {P : Program} {w : World} {k : IntKind} {ρ I} : ∀ {l : List V} {xs : List Value} {a r : Int}, Rels ρ I l xs → maxInts k a l = some r → (xs.foldlM Builtin.max2 (.int k a)).run P w = .ok (.int k r) w
  | [], _, a, r, h, hm => by cases h; simp [maxInts] at hm; subst hm; simp
  | v :: l, _, a, r, h, hm => by
    cases h with | cons _ _ x xs hv hs =>
    cases v <;> simp only [maxInts] at hm <;> try (cases hm; done)
    split at hm
    · rename_i hk; have := ikEq_eq hk; subst this
      cases hv
      simp only [List.foldlM_cons, Sem.run_bind, Builtin.max2, Sem.run_pure, Result.andThen_ok]
      exact run_max hs hm
    · cases hm

theorem builtin_ok {P : Program} {T : Tab} (hT : TOk P T) {ρ I L} {w : World} (hM : Mod ρ I L w) {b : Builtin} {ts : Array Nat} {vs : List V} {xs : Array Value} {t : Nat} (h : Rels ρ I vs xs.toList) (s : Sem Next)
    (hs : ∃ cs, s.run P w = (builtin b ts t cs xs).run P w) : (builtinV T L b ts.toList vs).Ok P ρ I L w s := by
  obtain ⟨cs, hs⟩ := hs
  unfold builtinV
  split <;> try trivial
  · rename_i t0 ts' v vs' hts
    have ht0 : ts[0]? = some t0 := by rw [← Array.getElem?_toList, hts]; rfl
    cases xs with | mk xl =>
    cases h with | cons _ _ x xs' hv hs' =>
    have hs2 : s.run P w = ((Builtin.len_ ts t ⟨x :: xs'⟩).run P w).andThen fun v w' => .ok (.value v) w' := by rw [hs]; simp only [builtin, Sem.run_bind]; rfl
    have hx0 : (⟨x :: xs'⟩ : Array Value)[0]? = some x := rfl
    unfold lenV
    split <;> try trivial
    all_goals rename_i hty
    all_goals have hk : (T t0).ty.known = true := by rw [hty]; rfl
    all_goals obtain ⟨d, hd, hdo⟩ := under hT hk
    all_goals rw [hty] at hdo
    all_goals (cases d <;> simp [DescOk] at hdo)
    · cases hv; rename_i sb hsb; subst hsb
      refine ⟨_, .int _ _, .inl ?_⟩
      rw [hs2]; simp only [Builtin.len_, ht0, hx0, Sem.run_bind, run_underlying hd, Result.andThen_ok, Sem.run_pure, goInt]
      rw [show sb.size = sb.data.toList.length from (Array.length_toList).symm]
    · obtain ⟨rfl, rfl⟩ := hdo
      refine ⟨_, .int _ _, .inl ?_⟩
      rw [hs2]; simp only [Builtin.len_, ht0, hx0, Sem.run_bind, run_underlying hd, Result.andThen_ok, Sem.run_pure, goInt]
    · cases hv
      exact ⟨_, .int _ _, .inl (by rw [hs2]; simp [Builtin.len_, ht0, run_underlying hd, goInt])⟩
    · cases hv
      · exact ⟨_, .int _ _, .inl (by rw [hs2]; simp [Builtin.len_, ht0, run_underlying hd, goInt])⟩
      · exact ⟨_, .int _ _, .inl (by rw [hs2]; simp [Builtin.len_, ht0, run_underlying hd, goInt])⟩
    · cases hv
      exact ⟨_, .int _ _, .inl (by rw [hs2]; simp [Builtin.len_, ht0, run_underlying hd, goInt])⟩
    · cases hv
      · exact ⟨_, .int _ _, .inl (by rw [hs2]; simp [Builtin.len_, ht0, run_underlying hd, goInt])⟩
      · exact ⟨_, .int _ _, .inl (by rw [hs2]; simp [Builtin.len_, ht0, run_underlying hd, goInt])⟩
    · cases hv
      exact ⟨_, .int _ _, .inl (by rw [hs2]; simp [Builtin.len_, ht0, run_underlying hd, goInt])⟩
    · split <;> try trivial
      rename_i ag ks vk m hL
      rw [nth_eq] at hL
      cases hv with | map _ te hρ =>
      obtain ⟨o, ho, es, rfl, he⟩ := hM.own _ _ te hL rfl hρ
      refine ⟨_, .int _ _, .inl ?_⟩
      rw [hs2]; simp only [Builtin.len_, ht0, hx0, Sem.run_bind, run_underlying hd, Result.andThen_ok, getObj, Sem.run, ho, Sem.run_pure, goInt, he.length, Array.length_toList]
  · rename_i k a l _
    split <;> try trivial
    rename_i r hr
    cases xs with | mk xl =>
    cases h with | cons _ _ x xs' hv hs' =>
    cases hv
    refine ⟨_, .int _ _, .inl ?_⟩
    rw [hs]
    have := run_min (P := P) (w := w) hs' hr
    simp [builtin, Builtin.min_, this]
  · rename_i k a l _
    split <;> try trivial
    rename_i r hr
    cases xs with | mk xl =>
    cases h with | cons _ _ x xs' hv hs' =>
    cases hv
    refine ⟨_, .int _ _, .inl ?_⟩
    rw [hs]
    have := run_max (P := P) (w := w) hs' hr
    simp [builtin, Builtin.max_, this]
  · rename_i st tx v x hts
    cases xs with | mk xl =>
    cases h with | cons _ _ y ys hv hs' =>
    cases hs' with | cons _ _ z zs hx hs'' =>
    cases hs''
    have hts' : ts = #[st, tx] := by apply Array.ext'; exact hts
    subst hts'
    refine appendV_ok hT hM hv hx (ty := t) ?_
    rw [hs]
    simp only [builtin, Sem.run_bind]
    rfl
  · rename_i st tx v x hts
    cases xs with | mk xl =>
    cases h with | cons _ _ y ys hv hs' =>
    cases hs' with | cons _ _ z zs hx hs'' =>
    cases hs''
    have hts' : ts = #[st, tx] := by apply Array.ext'; exact hts
    subst hts'
    refine copyV_ok hT hM hv hx (ty := t) ?_
    rw [hs]
    simp only [builtin, Sem.run_bind]
    rfl
  · cases xs with | mk xl =>
    cases h with | cons _ _ y ys hv hs' =>
    cases hs'
    refine sliceData_ok hv (ts := ts) (ty := t) s ?_
    rw [hs]
    simp only [builtin, Sem.run_bind]
    rfl
  · rename_i pt it x n hts
    cases xs with | mk xl =>
    cases h with | cons _ _ y ys hv hs' =>
    cases hs' with | cons _ _ z zs hx hs'' =>
    cases hs''
    have hts' : ts = #[pt, it] := by apply Array.ext'; exact hts
    subst hts'
    refine unsafeStr_ok hT hM hv hx (it := it) (ty := t) s ?_
    rw [hs]
    simp only [builtin, Sem.run_bind]
    rfl

theorem run_nilCmp {P : Program} {w : World} {t : Nat} {ms} (hd : P.underlying t = some (.interface ms)) (x : Operand) :
    ((do eqGuard .eql t x (.const .nilIface) .nilIface .nilIface; binOp .eql t .nilIface .nilIface : Sem Value)).run P w = .ok (.bool true) w ∧
    ((do eqGuard .neq t x (.const .nilIface) .nilIface .nilIface; binOp .neq t .nilIface .nilIface : Sem Value)).run P w = .ok (.bool false) w := by
  have h : ∀ d : Nat, (Op.equalIn (d + 1) t .nilIface .nilIface).run P w = .ok true w := fun d => by
    simp [Op.equalIn, run_underlying hd]
  have g : ∀ op, (eqGuard op t x (.const .nilIface) .nilIface .nilIface).run P w = .ok () w := fun op => by
    cases op <;> cases x <;> rfl
  constructor <;> (rw [Sem.run_bind, g]; simp only [binOp]; simp [Op.equal, Op.maxDepth, h 9999])
set_option maxHeartbeats 4000000 in
/-- THE MODEL DOES WHAT 'prim' SAYS. -/
theorem prim_ok {P : Program} {T : Tab} (hT : TOk P T) {ρ I L} {w : World} (hM : Mod ρ I L w) {tm : List V} {a : Act} (h : Rels ρ I tm a.tmps.toList) (o : Oper) :
    (prim T tm L o.op).Ok P ρ I L w (execOp a.eval o) := by
  have hE : ∀ x, Rel ρ I (evO tm x) (a.eval x) := rel_evO h
  have vrun : ∀ (m : Sem Value), ((do pure (.value (← m)) : Sem Next)).run P w = (m.run P w).andThen fun v w' => .ok (.value v) w' := fun m => by simp only [Sem.run_bind]; rfl
  cases ho : o.op with
  | move x => exact ⟨_, hE x, .inl (by simp [execOp, ho])⟩
  | assign x => exact ⟨_, hE x, .inl (by simp [execOp, ho])⟩
  | pick c x y =>
    simp only [prim]
    split <;> try trivial
    rename_i cb hc
    have hcv : a.eval c = .bool cb := by have := hE c; rw [hc] at this; exact this.boolInv
    have hrun : (execOp a.eval o).run P w = .ok (.value (if cb then a.eval x else a.eval y)) w := by
      simp only [execOp, ho, Sem.run_bind, asBool, hcv, Sem.run_pure, Result.andThen_ok]
    have hx := hE x; have hy := hE y
    unfold pickV
    split
    · rename_i p q hp hq
      rw [hp] at hx; rw [hq] at hy
      refine ⟨.bool (cond cb p q), .bool _, .inl ?_⟩
      rw [hrun]
      have e1 : a.eval x = .bool p := hx.boolInv
      have e2 : a.eval y = .bool q := hy.boolInv
      rw [e1, e2]; cases cb <;> rfl
    · cases cb
      · exact ⟨_, hy, .inl (by rw [hrun]; rfl)⟩
      · exact ⟨_, hx, .inl (by rw [hrun]; rfl)⟩
  | alloc e =>
    simp only [prim]
    split <;> try trivial
    rename_i hk
    obtain ⟨z, hz, hz2⟩ := run_zeroValue (w := w) hT hk
    refine newFix_ok (xs := z.cells) (el := e) (x := .pointer (some ⟨w.heap.size, 0, none⟩)) (hz2 ρ I) (fun ρ' t' te ht h1 h2 h3 h4 => ?_) ?_
    · have := Rel.ptr (ρ := ρ') (I := I) t' 0 0 te ht (by omega)
      simpa [h1, h2] using this
    · simp only [execOp, ho, vrun, Instr.alloc, Sem.run_bind, hz, Result.andThen_ok, run_newVar, Sem.run_pure]
  | box e x =>
    simp only [prim]
    split <;> try trivial
    rename_i cs hc
    refine newFix_ok (xs := (a.eval x).cells) (el := e) (x := .pointer (some ⟨w.heap.size, 0, none⟩)) (cellsV_rel (hE x) hc) (fun ρ' t' te ht h1 h2 h3 h4 => ?_) ?_
    · have := Rel.ptr (ρ := ρ') (I := I) t' 0 0 te ht (by omega)
      simpa [h1, h2] using this
    · simp only [execOp, ho, vrun, Instr.box, Sem.run_bind, Result.andThen_ok, run_newVar, Sem.run_pure]
  | build t parts =>
    simp only [prim]
    split <;> try trivial
    rename_i cs hc
    have hr : Rels ρ I ((parts.toList.map fun p => (p.1, evO tm p.2)).map (·.2)) ((parts.map fun p => (p.1, a.eval p.2)).toList.map (·.2)) := by
      have := relsMap h (parts.toList.map (·.2))
      simpa [List.map_map, Function.comp_def] using this
    obtain ⟨c, h1, h2⟩ := run_build (P := P) (w := w) hT (ps := parts.map fun p => (p.1, a.eval p.2)) (by simp [List.map_map, Function.comp_def]) hr hc
    exact ⟨.agg c, .agg _ _ h2, .inl (by simp only [execOp, ho, vrun, h1, Result.andThen_ok])⟩
  | buildSlice t n parts =>
    simp only [prim]
    split <;> try trivial
    rename_i e hty
    split <;> try trivial
    rename_i sz hke hsz
    replace hsz := (show _ = sz + 1 from hsz)
    split <;> try trivial
    rename_i cs hc
    intro hg
    simp at hg
    have hk : (T t).ty.known = true := by rw [hty]; rfl
    obtain ⟨d, hd, hdo⟩ := under hT hk
    rw [hty] at hdo
    cases d <;> simp [DescOk] at hdo
    subst hdo
    rename_i e
    obtain ⟨ie, de, g1, g2, g3, g4, g5, ⟨z, g6, hzl, g7⟩, _⟩ := (hT.ok hke).ex
    rw [hsz] at hzl g3
    have hr : Rels ρ I ((parts.toList.map fun p => (p.1, evO tm p.2)).map (·.2)) ((parts.map fun p => (p.1, a.eval p.2)).toList.map (·.2)) := by
      have := relsMap h (parts.toList.map (·.2))
      simpa [List.map_map, Function.comp_def] using this
    have hzero : Rels ρ I (List.flatten (List.replicate n (T e).zero)) ((Array.range (n * (sz + 1))).map (fun j => z.cells[j % z.cells.size]!)).toList := by
      have hz0 := g7 ρ I
      have hzlen := hz0.length
      simp at hzlen
      have key : ∀ m, m ≤ n → Rels ρ I (List.flatten (List.replicate m (T e).zero)) ((((Array.range (n * (sz + 1))).map (fun j => z.cells[j % z.cells.size]!)).toList).take (m * (sz + 1))) := by
        intro m hm
        induction m with
        | zero => simp; exact .nil
        | succ m ih =>
          have e1 := ih (by omega)
          have e2 := zeroRow (zero := z.cells) m n (sz + 1) hzl (by omega) (by omega)
          rw [List.replicate_succ', List.flatten_append, show (m + 1) * (sz + 1) = m * (sz + 1) + (sz + 1) by rw [Nat.add_mul, Nat.one_mul], List.take_add]
          refine e1.append ?_
          rw [e2]
          simpa using hz0
      have := key n (Nat.le_refl _)
      rwa [List.take_of_length_le (by simp)] at this
    obtain ⟨c, h1, h2⟩ := run_fill (ps := (parts.map fun p => (p.1, a.eval p.2)).toList) hzero (by simp [List.map_map, Function.comp_def]) hr hc
    have hcl : cs.length = n * (sz + 1) := by
      have : ∀ {parts : List (Nat × V)} {cells r : List V} {place : Nat → Option (Nat × Nat)}, fillV place cells parts = some r → r.length = cells.length := by
        intro parts
        induction parts with
        | nil => intro cells r place hf; simp [fillV] at hf; rw [hf]
        | cons p parts ih =>
          intro cells r place hf
          obtain ⟨i, v⟩ := p
          simp only [fillV] at hf
          split at hf
          · split at hf
            · rename_i c' _ hs
              obtain ⟨s1, s2⟩ := splice_eq hs
              rw [ih hf, s2]; simp; omega
            · cases hf
          · cases hf
      rw [this hc]
      have := hzero.length
      simpa using this
    have hrun : (execOp a.eval o).run P w = .ok (.value (.slice (some ⟨w.heap.size, 0, none⟩) n n)) (w.alloc (.cells c e)) := by
      have hne : ¬ n * (sz + 1) > 2 ^ 24 := by omega
      simp only [execOp, ho, vrun, Instr.buildSlice, Sem.run_bind, run_underlying hd, Result.andThen_ok, sizeOf, run_typeInfo g1, Sem.run_pure, g3, hne, if_false, zeroValue, g6, Sem.run_ite]
      by_cases hz0 : n * (sz + 1) = 0
      · have e0 : Array.map (fun j => z.cells[j % z.cells.size]!) (Array.range (n * (sz + 1))) = Array.map (fun j => (#[] : Array Value)[j % (#[] : Array Value).size]!) (Array.range (n * (sz + 1))) := by
          rw [hz0]; simp [Array.range]
        rw [e0] at h1
        simp only [hz0, if_true, Sem.run_pure, Result.andThen_ok]
        simp only [hz0] at h1
        simp only [h1, newRow, Sem.run_bind, run_newObj, Result.andThen_ok, Sem.run_pure]
        rfl
      · simp only [hz0, if_false, Sem.run_pure, Result.andThen_ok, Sem.run_bind]
        simp only [h1, newRow, Sem.run_bind, run_newObj, Result.andThen_ok, Sem.run_pure]
        rfl
    split
    · rename_i sh hsh
      split <;> try trivial
      rename_i hrows
      have hshl : sh.length = sz + 1 := by
        have a1 := (g7 ρ I).length
        have a2 : (T e).zero.length = sh.length := by rw [← shOf_eq 0 hsh, shV_length]
        simp at a1; omega
      have hcs := h2.length
      refine ⟨.cells c e (0, 0), _, .inl hrun, fun ρ' t' hρ ht => ⟨⟨⟨c, e, rfl, Nat.le_refl _, by simp at hcs ⊢; omega, fun i hi => ⟨by simp [cellsOf, shV_length, hshl], ?_⟩⟩, _, rfl⟩, ?_⟩⟩
      · have hrow := rowsOk_get hrows i hi
        rw [← hshl] at hrow
        have hrow := row_at hrow
        simp only [cellsOf]
        rw [← hshl, hrow, Nat.zero_add]
        exact ((h2.drop _).take _).mono hρ (Imm.le_refl _)
      · exact .sl _ _ _ _ _ n ⟨w.heap.size, 0, sz + 1, n, n⟩ 0 ht rfl (by simp) (Nat.le_refl _) (Nat.le_refl _) (by simp) (fun _ => by simp)
    · refine newFix_ok (xs := c) (el := e) (x := .slice (some ⟨w.heap.size, 0, none⟩) n n) h2 (fun ρ' t' te ht h1 h2 h3 h4 => ?_) hrun
      have := Rel.slf (ρ := ρ') (I := I) t' (sz + 1) 0 n n te 0 ht h4 (Nat.le_refl _) (by omega) (fun _ => by omega)
      rwa [h1] at this
  | load t x =>
    simp only [prim]
    split <;> try trivial
    rename_i v hv
    obtain ⟨y, h1, h2⟩ := run_ptrLoad (P := P) hT hM (hE x) hv
    exact ⟨y, h2, .inl (by simp only [execOp, ho, vrun, h1, Result.andThen_ok])⟩
  | store t x y =>
    simp only [prim]
    split <;> try trivial
    rename_i b i sub hx
    split <;> try trivial
    rename_i vs blk hk hc hL
    split <;> try trivial
    rename_i blk' hsz hst
    rw [nth_eq] at hL
    have hxr := hE x
    rw [hx] at hxr
    generalize hax : a.eval x = X at hxr
    cases hxr with | ptr _ _ _ te hρ hi =>
    obtain ⟨o', w', c1, c2, c3⟩ := run_storeV (P := P) hT hM hL hρ hi (hE y) hc hk hsz hst
    refine ⟨blk, te, o', w', hL, storeV_live hst, hρ, c1, c2, .inr ⟨?_, rfl⟩⟩
    simp only [execOp, ho, Sem.run_bind, Instr.storeAt, hax, Instr.sureAddr, Sem.run_pure, Result.andThen_ok, c3]
  | nilCheck x =>
    simp only [prim]
    have hx := hE x
    split <;> try trivial
    all_goals rename_i hxe
    all_goals rw [hxe] at hx
    all_goals generalize hax : a.eval x = X at hx
    all_goals refine ⟨X, hx, .inl ?_⟩
    all_goals cases hx
    all_goals simp only [execOp, ho, hax, Sem.run_pure]
  | binOp op t x y yt =>
    simp only [prim]
    split
    · rename_i b hb
      have hx := hE x
      unfold nilCmp at hb
      split at hb
      · rename_i hty hxe
        rw [hxe] at hx
        generalize hax : a.eval x = X at hx
        cases hx; cases hb
        obtain ⟨d, hd, hdo⟩ := under hT (t := t) (by rw [hty]; rfl)
        rw [hty] at hdo
        cases d <;> simp [DescOk] at hdo
        refine ⟨_, .bool true, .inl ?_⟩
        simp only [execOp, ho]
        rw [vrun, hax, show a.eval (.const .nilIface) = .nilIface from rfl, (run_nilCmp hd x).1]
        rfl
      · rename_i hty hxe
        rw [hxe] at hx
        generalize hax : a.eval x = X at hx
        cases hx; cases hb
        obtain ⟨d, hd, hdo⟩ := under hT (t := t) (by rw [hty]; rfl)
        rw [hty] at hdo
        cases d <;> simp [DescOk] at hdo
        refine ⟨_, .bool false, .inl ?_⟩
        simp only [execOp, ho]
        rw [vrun, hax, show a.eval (.const .nilIface) = .nilIface from rfl, (run_nilCmp hd x).2]
        rfl
      · cases hb
    split
    · rename_i pr hpr
      exact cmp_ok hT (hE x) (hE y) _ (by simp only [execOp, ho]; exact vrun _) hpr
    · exact bin_ok hT (hE x) (hE y) _ (by simp only [execOp, ho]; exact vrun _)
  | unOp op t x =>
    simp only [prim, unV]
    have hx := hE x
    split <;> try trivial
    · rename_i k n hxe
      rw [hxe] at hx
      generalize hax : a.eval x = X at hx
      cases hx
      exact ⟨_, .int _ _, .inl (by simp only [execOp, ho, vrun, hax, Op.unary, Op.intArith, Sem.run_pure, Result.andThen_ok])⟩
    · rename_i b hxe
      rw [hxe] at hx
      generalize hax : a.eval x = X at hx
      cases hx
      exact ⟨_, .bool _, .inl (by simp only [execOp, ho, vrun, hax, Op.unary, Sem.run_pure, Result.andThen_ok])⟩
  | convert s d x =>
    simp only [prim]
    split
    · rename_i e hs hd
      exact bytesStr_ok hT hM (hE x) hd _ (by simp only [execOp, ho, vrun])
    unfold convV
    have hx := hE x
    split <;> try trivial
    · rename_i k0 k k1 n hs hd hxe
      rw [hxe] at hx
      generalize hax : a.eval x = X at hx
      cases hx
      obtain ⟨ds, u1, u2⟩ := under hT (t := s) (by rw [hs]; rfl)
      obtain ⟨dd, v1, v2⟩ := under hT (t := d) (by rw [hd]; rfl)
      rw [hs] at u2; rw [hd] at v2
      cases ds <;> simp [DescOk] at u2
      cases dd <;> simp [DescOk] at v2
      subst v2
      exact ⟨_, .int _ _, .inl (by simp only [execOp, ho, vrun, hax, convert, Sem.run_bind, run_underlying u1, run_underlying v1, Result.andThen_ok, Conv.intToInt, Sem.run_pure])⟩
    · rename_i l hs hd hxe
      rw [hxe] at hx
      generalize hax : a.eval x = X at hx
      have hx' := hx
      cases hx
      obtain ⟨ds, u1, u2⟩ := under hT (t := s) (by rw [hs]; rfl)
      obtain ⟨dd, v1, v2⟩ := under hT (t := d) (by rw [hd]; rfl)
      rw [hs] at u2; rw [hd] at v2
      cases ds <;> simp [DescOk] at u2
      cases dd <;> simp [DescOk] at v2
      exact ⟨_, hx', .inl (by simp only [execOp, ho, vrun, hax, convert, Sem.run_bind, run_underlying u1, run_underlying v1, Result.andThen_ok, Sem.run_pure])⟩
  | makeInterface t x =>
    simp only [prim]
    split <;> try trivial
    rename_i hni hno
    have hk : (T t).ty.known = true := by cases hy : (T t).ty <;> first | rfl | exact absurd hy hno
    obtain ⟨d, hd, hdo⟩ := under hT hk
    refine ⟨.iface t (a.eval x), .iface t _ _ (hE x), .inl ?_⟩
    simp only [execOp, ho, vrun, Instr.makeInterface, Sem.run_bind, run_underlying hd, Result.andThen_ok]
    cases d <;> simp only [Sem.run_pure, Result.andThen_ok]
    cases hy : (T t).ty <;> rw [hy] at hdo <;> simp [DescOk] at hdo
    exact absurd hy hni
  | makeFunc f first caps =>
    simp only [prim]
    split <;> try trivial
    rename_i hf
    have hfe : first = #[] := by cases first; simp at hf; simp [hf]
    refine ⟨.func f #[] (caps.map a.eval), .fn _ _ _ (by have := relsMap h caps.toList; simpa using this), .inl ?_⟩
    simp [execOp, ho, Instr.makeFunc, hfe]
  | makeMap t r =>
    simp only [prim]
    split <;> try trivial
    split <;> try trivial
    refine ⟨.map #[] 0, .map (some w.heap.size), .inl ?_, fun ρ' t' _ ht => ⟨⟨#[], rfl, trivial⟩, .map t' ⟨w.heap.size, 0, 0, 0, 0⟩ ht⟩⟩
    · simp [execOp, ho, Instr.makeMap]
  | lookup t x i ok => exact lookup_ok hT hM (hE x) (hE i) ok _ (by simp only [execOp, ho, vrun])
  | mapUpdate t x k y => exact mapUpdate_ok hT hM (hE x) (hE k) (hE y) _ (by simp only [execOp, ho, Sem.run_bind]; rfl)
  | mapEntry t x k => exact mapEntry_ok hT hM (hE x) (hE k) _ (by simp only [execOp, ho, vrun])
  | entryStore t x k y => exact entryStore_ok hT hM (hE x) (hE k) (hE y) _ (by simp only [execOp, ho, Sem.run_bind]; rfl)
  | range t x => exact range_ok hT hM (hE x) _ (by simp only [execOp, ho, vrun])
  | makeSlice t l c =>
    exact makeSlice_ok hT hM.len (hE l) (hE c) _ (by simp only [execOp, ho, vrun])
  | slice t x lo hi mx =>
    simp only [prim]
    split
    · rename_i n e hty
      unfold sliceArrG
      split <;> try trivial
      rename_i n' e' b i sub hty' hx
      split <;> try trivial
      rename_i cs hL
      intro hg
      simp [len_eq] at hg
      rw [nth_eq] at hL
      have hx' := hE x
      rw [hx] at hx'
      rw [hx]
      exact sliceArr_ok hT hM hx' (fun b1 i1 s1 he => by cases he; exact ⟨_, cs, hL, fun n1 e1 h1 => by rw [hty'] at h1; cases h1; exact hg⟩) (relOpt h lo) (relOpt h hi) (relOpt h mx) _ (by simp only [execOp, ho, vrun])
    · exact slice_ok hT (hE x) (relOpt h lo) (relOpt h hi) (relOpt h mx) _ (by simp only [execOp, ho, vrun])
  | fieldAddr t x f => exact fieldAddr_ok hT (hE x) _ (by simp only [execOp, ho, vrun])
  | field t x f => exact field_ok hT (hE x) _ (by simp only [execOp, ho, vrun])
  | indexAddr t x i => exact indexAddrG_ok hT hM (hE x) (hE i) _ (by simp only [execOp, ho, vrun])
  | index t x i => exact index_ok hT (hE x) (hE i) _ (by simp only [execOp, ho, vrun])
  | extract x i =>
    simp only [prim]
    have hx := hE x
    split <;> try trivial
    rename_i l hl
    rw [hl] at hx
    split <;> try trivial
    rename_i v hv
    rw [nth_eq] at hv
    generalize hax : a.eval x = X at hx
    cases hx; rename_i xs hxs
    obtain ⟨y, hy, hr⟩ := hxs.get i hv
    have hy' : xs[i]? = some y := by simpa using hy
    exact ⟨y, hr, .inl (by simp only [execOp, ho, vrun, hax, Instr.extract, hy', Sem.run_pure, Result.andThen_ok])⟩
  | call c =>
    simp only [prim]
    split <;> try trivial
    rename_i b args ts heq
    cases heq
    refine builtin_ok hT hM (xs := args.map a.eval) (t := o.type) (by have := relsMap h args.toList; simpa using this) _ ?_
    simp only [execOp, ho, Sem.run_bind, resolve, Sem.run_pure, Result.andThen_ok, invoke]
    exact ⟨_, rfl⟩
  | _ => trivial

end Go.Vx
/- Functions that only compute: contracts on plain data; what a value is when its memory is left alone for good. -/
namespace Go.Vx
open Go Go.RowKit
inductive Out where
  | ret (v : V)
  | pan (v : V)
def FR (r : Option Nat) : Fence := { Fence.wide with round := r }
theorem FR_none : FR none = Fence.wide := rfl
theorem FR_depth (r : Option Nat) : (FR r).depth = none := rfl

def OutRel (ρ : List (Option TE)) (I : Imm) : Out → Ending → Prop
  | .ret v, .returned x => Rel ρ I v x
  | .pan v, .panicked [c] => c.recovered = false ∧ c.goexit = false ∧ Rel ρ I v c.v
  | _, _ => False

def ImmOk (I : Imm) (w : World) : Prop := ∀ b o, I b = some o → w.heap[b]? = some o

/-- WHATEVER THE WORLD: called with values that read as Vs the function ends as R says, and leaves all that was there as it was. -/
def Pure (P : Program) (f : Nat) (Vs : List V) (R : Out → Prop) : Prop :=
  ∀ I w (xs : Array Value), GlobOk I → ImmOk I w → Rels [] I Vs xs.toList → Calls P f xs w fun e w' =>
    ∃ o I', R o ∧ OutRel [] I' o e ∧ ImmOk I' w' ∧ Imm.le I I' ∧ (∀ b ob, I' b = some ob → I b = some ob ∨ w.heap.size ≤ b) ∧ Below w.heap.size w w'

theorem Pure.mono {P f Vs} {R R' : Out → Prop} (h : Pure P f Vs R) (hr : ∀ o, R o → R' o) : Pure P f Vs R' := fun I w xs h0 h1 h2 =>
  (h I w xs h0 h1 h2).mono fun _ _ ⟨o, I', k1, k2⟩ => ⟨o, I', hr o k1, k2⟩

/-! ### A value without local memory -/
def sealV : Nat → List Blk → V → V
  | 0, _, v => match v with
    | .ptr _ _ _ | .sl _ _ _ _ _ | .slf _ _ _ _ _ | .fn _ _ | .iface _ _ | .agg _ | .tup _ | .map _ | .yld _ | .sp _ _ _ _ => .any
    | v => v
  | n + 1, L, v => match v with
    | .sl t sz off len _ => match nth L t with
      | some (.arr _ sh gi gb gs) => .ro sz len (fun i => shV sh (gi (off + i)) (gb (off + i)) (gs (off + i)) 0)
      | _ => .any
    | .slf t esz off len _ => match nth L t with
      | some (.fix _ cs) => .ro esz len (fun i => ((cs.drop (off + i * esz)).take esz).map (sealV n L))
      | _ => .any
    | .fn f l => .fn f (l.map (sealV n L))
    | .iface t v => .iface t (sealV n L v)
    | .agg l => .agg (l.map (sealV n L))
    | .tup l => .tup (l.map (sealV n L))
    | .ptr _ _ _ | .map _ | .yld _ | .sp _ _ _ _ => .any
    | v => v
/-- The tags that a value leads to. -/
def tagsV : Nat → List Blk → V → List Nat
  | 0, _, _ => []
  | n + 1, L, v => match v with
    | .sl t _ _ _ _ => [t]
    | .slf t _ _ _ _ => match nth L t with
      | some (.fix _ cs) => t :: cs.flatMap (tagsV n L)
      | _ => [t]
    | .fn _ l => l.flatMap (tagsV n L)
    | .iface _ v => tagsV n L v
    | .agg l => l.flatMap (tagsV n L)
    | .tup l => l.flatMap (tagsV n L)
    | _ => []

theorem Rels.map_seal {ρ I J} {f : V → V} {l : List V} {xs : List Value} (h : Rels ρ I l xs) (hf : ∀ v x, v ∈ l → Rel ρ I v x → Rel [] J (f v) x) : Rels [] J (l.map f) xs := by
  induction l generalizing xs with
  | nil => cases h; exact .nil
  | cons v l ih => cases h with | cons _ _ x xs h hs => exact .cons _ _ _ _ (hf v x (by simp) h) (ih hs fun v x hv => hf v x (by simp [hv]))

theorem Mod.cellsAt {ρ I L w} (hM : Mod ρ I L w) {t : Nat} {blk : Blk} {te : TE} (hL : L[t]? = some blk) (hb : (∃ e cs, blk = .fix e cs) ∨ ∃ e sh gi gb gs, blk = .arr e sh gi gb gs) (hρ : ρ[t]? = some (some te)) :
    ∃ arr el, w.heap[te.b]? = some (.cells arr el (0, 0)) ∧ te.n ≤ te.m ∧ te.o + te.m * te.sz ≤ arr.size ∧
      (∀ i, i < te.n → (cellsOf blk i).length = te.sz ∧ Rels ρ I (cellsOf blk i) ((arr.toList.drop (te.o + i * te.sz)).take te.sz)) ∧ ((∃ e cs, blk = .fix e cs) → te.n = 1) := by
  rcases hb with ⟨e, cs, rfl⟩ | ⟨e, sh, gi, gb, gs, rfl⟩
  · obtain ⟨o, ho, hb⟩ := hM.own t _ te hL rfl hρ
    obtain ⟨⟨arr, el, rfl, h2, h3, h4⟩, h5, _⟩ := hb
    exact ⟨arr, el, ho, h2, h3, h4, fun _ => h5⟩
  · obtain ⟨o, ho, hb⟩ := hM.own t _ te hL rfl hρ
    obtain ⟨⟨arr, el, rfl, h2, h3, h4⟩, _⟩ := hb
    exact ⟨arr, el, ho, h2, h3, h4, fun ⟨_, cs, h⟩ => by cases h⟩

theorem seal_rel {ρ I L w} (hM : Mod ρ I L w) {J : Imm} (hJ : Imm.le I J) (n : Nat) : ∀ (v : V) (x : Value), Rel ρ I v x → (∀ t ∈ tagsV n L v, ∀ te blk, L[t]? = some blk → blk.live = true → ρ[t]? = some (some te) → J te.b = w.heap[te.b]?) → Rel [] J (sealV n L v) x := by
  induction n with
  | zero =>
    intro v x h _
    cases h with
    | bool => exact .bool _
    | int => exact .int _ _
    | str s l h => exact .str s l h
    | nilPtr => exact .nilPtr
    | nilSl => exact .nilSl
    | nilMap => exact .nilMap
    | nilFunc => exact .nilFunc
    | glob => exact .glob _
    | nilIface => exact .nilIface
    | roNil sz f => exact .roNil sz f
    | ro sz len f b off cap arr el fz hI hc hs hr => exact .ro _ _ _ b off cap arr el fz (hJ _ _ hI) hc hs (fun i hi => (hr i hi).mono (TEs.le_refl _) hJ)
    | ep sz len f i sub b off arr el fz hI hi hs hr => exact .ep _ _ _ _ _ b off arr el fz (hJ _ _ hI) hi hs (fun i hi => (hr i hi).mono (TEs.le_refl _) hJ)
    | _ => exact .any _
  | succ n ih =>
    intro v x h ht
    cases h with
    | bool => exact .bool _
    | int => exact .int _ _
    | str s l h => exact .str s l h
    | nilPtr => exact .nilPtr
    | nilSl => exact .nilSl
    | nilMap => exact .nilMap
    | nilFunc => exact .nilFunc
    | glob => exact .glob _
    | nilIface => exact .nilIface
    | ptr => exact .any _
    | map => exact .any _
    | yld => exact .any _
    | sp => exact .any _
    | any => exact .any _
    | roNil sz f => exact .roNil sz f
    | ro sz len f b off cap arr el fz hI hc hs hr => exact .ro _ _ _ b off cap arr el fz (hJ _ _ hI) hc hs (fun i hi => (hr i hi).mono (TEs.le_refl _) hJ)
    | ep sz len f i sub b off arr el fz hI hi hs hr => exact .ep _ _ _ _ _ b off arr el fz (hJ _ _ hI) hi hs (fun i hi => (hr i hi).mono (TEs.le_refl _) hJ)
    | fn f l xs h => exact .fn _ _ _ (h.map_seal fun v x hv hr => ih v x hr fun t hm => ht t (by simp only [tagsV, List.mem_flatMap]; exact ⟨v, hv, hm⟩))
    | iface t v x h => exact .iface _ _ _ (ih v x h fun t' hm => ht t' (by simpa only [tagsV] using hm))
    | agg l xs h => exact .agg _ _ (h.map_seal fun v x hv hr => ih v x hr fun t hm => ht t (by simp only [tagsV, List.mem_flatMap]; exact ⟨v, hv, hm⟩))
    | tup l xs h => exact .tup _ _ (h.map_seal fun v x hv hr => ih v x hr fun t hm => ht t (by simp only [tagsV, List.mem_flatMap]; exact ⟨v, hv, hm⟩))
    | slNil t sz off =>
      simp only [sealV]
      split
      · exact .roNil _ _
      · exact .any _
    | sl t sz off len cap c te o hρ hz hl hlc hcc hc ho =>
      simp only [sealV]
      split
      · rename_i sh gi gb gs hL
        rw [nth_eq] at hL
        obtain ⟨arr, el, h1, h2, h3, h4, _⟩ := hM.cellsAt hL (.inr ⟨_, sh, gi, gb, gs, rfl⟩) hρ
        have hJb := ht t (by simp [tagsV]) te _ hL rfl hρ
        rw [h1] at hJb
        subst hz
        by_cases hcap : c = 0
        · have hl0 : len = 0 := by omega
          subst hl0
          exact .ro _ _ _ te.b o c arr el (0, 0) hJb (by omega) (fun i hi => by omega) (fun i hi => by omega)
        · rw [ho hcap]
          refine .ro _ _ _ te.b _ c arr el (0, 0) hJb (Nat.le_trans hlc hcc) (fun i hi => ?_) (fun i hi => ?_)
          · rw [shV_length]; have := (h4 (off + i) (by omega)).1; simpa [cellsOf, shV_length] using this
          · have := (h4 (off + i) (by omega)).2
            simp only [cellsOf] at this
            rw [Nat.add_mul, ← Nat.add_assoc] at this
            exact shV_rel this
      · exact .any _
    | slf t esz off len cap te o hρ hn hlc hc ho =>
      simp only [sealV]
      split
      · rename_i cs hL
        rw [nth_eq] at hL
        obtain ⟨arr, el, h1, h2, h3, h4, _⟩ := hM.cellsAt hL (.inl ⟨_, cs, rfl⟩) hρ
        have hJb := ht t (by simp [tagsV, nth_eq, hL]) te _ hL rfl hρ
        rw [h1] at hJb
        obtain ⟨g1, g2⟩ := h4 0 (by omega)
        simp only [cellsOf, Nat.zero_mul, Nat.add_zero] at g1 g2
        by_cases hcap : cap = 0
        · have hl0 : len = 0 := by omega
          subst hl0
          exact .ro _ _ _ te.b o cap arr el (0, 0) hJb (by omega) (fun i hi => by omega) (fun i hi => by omega)
        · rw [ho hcap]
          have hb : ∀ i, i < len → off + i * esz + esz ≤ te.sz := fun i hi => by
            have : (i + 1) * esz ≤ cap * esz := Nat.mul_le_mul_right _ (by omega)
            rw [Nat.add_mul, Nat.one_mul] at this; omega
          refine .ro _ _ _ te.b _ cap arr el (0, 0) hJb hlc (fun i hi => by simp; have := hb i hi; omega) (fun i hi => ?_)
          have h5 := (g2.drop (off + i * esz)).take esz
          have h6 : ((List.drop (off + i * esz) (List.take te.sz (List.drop te.o arr.toList))).take esz) = (List.drop (te.o + off + i * esz) arr.toList).take esz := by
            have := hb i hi
            rw [List.drop_take, List.drop_drop, List.take_take, Nat.min_eq_left (by omega), Nat.add_assoc]
          rw [h6] at h5
          refine h5.map_seal fun v x hv hr => ih v x hr fun t' hm => ht t' ?_
          simp only [tagsV, nth_eq, hL]
          refine List.mem_cons_of_mem _ (List.mem_flatMap.2 ⟨v, ?_, hm⟩)
          exact List.mem_of_mem_drop (List.mem_of_mem_take hv)
      · exact .any _

def killL : List Blk → List Nat → List Blk
  | L, [] => L
  | L, t :: ts => killL (L.set t .dead) ts
theorem killL_get : ∀ (ts : List Nat) (L : List Blk) (s : Nat), (s ∈ ts → ∀ blk, (killL L ts)[s]? = some blk → blk = .dead) ∧ (s ∉ ts → (killL L ts)[s]? = L[s]?)
  | [], L, s => ⟨fun h => by simp at h, fun _ => rfl⟩
  | t :: ts, L, s => by
    obtain ⟨h1, h2⟩ := killL_get ts (L.set t .dead) s
    constructor
    · intro hs blk hb
      by_cases hm : s ∈ ts
      · exact h1 hm blk hb
      · have : s = t := by simp [hm] at hs; exact hs
        subst this
        simp only [killL] at hb
        rw [h2 hm] at hb
        by_cases hlt : s < L.length
        · rw [List.getElem?_set_self hlt] at hb; cases hb; rfl
        · rw [List.getElem?_eq_none (by simp; omega)] at hb; cases hb
    · intro hs
      simp at hs
      simp only [killL]
      rw [h2 hs.2, List.getElem?_set_ne (Ne.symm hs.1)]
theorem killL_length : ∀ (ts : List Nat) (L : List Blk), (killL L ts).length = L.length
  | [], _ => rfl
  | t :: ts, L => by simp only [killL]; rw [killL_length ts]; simp

/-- What is known for good when the tags of ts are frozen. -/
noncomputable def immKill (ρ : List (Option TE)) (I : Imm) (L : List Blk) (ts : List Nat) (w : World) : Imm := fun b =>
  match I b with
  | some o => some o
  | none => open Classical in if Own ρ L b ∧ ¬ Own ρ (killL L ts) b then w.heap[b]? else none

theorem Mod.kill {ρ I L w} (hM : Mod ρ I L w) (ts : List Nat) :
    Imm.le I (immKill ρ I L ts w) ∧ ImmOk (immKill ρ I L ts w) w ∧ (∀ b o, immKill ρ I L ts w b = some o → I b = some o ∨ (Own ρ L b ∧ ¬ Own ρ (killL L ts) b)) ∧
    (∀ t ∈ ts, ∀ te blk, L[t]? = some blk → blk.live = true → ρ[t]? = some (some te) → immKill ρ I L ts w te.b = w.heap[te.b]?) ∧
    Mod ρ (immKill ρ I L ts w) (killL L ts) w ∧ Stp ρ I L w ρ (immKill ρ I L ts w) (killL L ts) w := by
  have hle : Imm.le I (immKill ρ I L ts w) := fun b o h => by simp [immKill, h]
  have hcase : ∀ b o, immKill ρ I L ts w b = some o → (I b = some o) ∨ (Own ρ L b ∧ ¬ Own ρ (killL L ts) b ∧ w.heap[b]? = some o) := by
    intro b o h
    unfold immKill at h
    split at h
    · rename_i o' ho; cases h; exact .inl ho
    · split at h
      · rename_i hc; exact .inr ⟨hc.1, hc.2, h⟩
      · cases h
  have hlive : ∀ (t : Nat) blk, (killL L ts)[t]? = some blk → blk.live = true → L[t]? = some blk ∧ t ∉ ts := by
    intro t blk h1 h2
    by_cases hm : t ∈ ts
    · have := (killL_get ts L t).1 hm blk h1; subst this; cases h2
    · exact ⟨by rw [← (killL_get ts L t).2 hm]; exact h1, hm⟩
  have hsub : ∀ b, Own ρ (killL L ts) b → Own ρ L b := by
    rintro b ⟨t, te, blk, h1, h2, h3, h4⟩
    exact ⟨t, te, blk, (hlive t blk h1 h2).1, h2, h3, h4⟩
  have hok : ImmOk (immKill ρ I L ts w) w := fun b o h => by
    rcases hcase b o h with h | ⟨_, _, h⟩
    · exact hM.imm b o h
    · exact h
  refine ⟨hle, hok, fun b o h => (hcase b o h).imp_right fun h => ⟨h.1, h.2.1⟩, ?_, ?_⟩
  · intro t ht te blk hL hl hρ
    have hown : Own ρ L te.b := ⟨t, te, blk, hL, hl, hρ, rfl⟩
    have hno : ¬ Own ρ (killL L ts) te.b := by
      rintro ⟨s, te', blk', h1, h2, h3, h4⟩
      obtain ⟨h5, h6⟩ := hlive s blk' h1 h2
      have := hM.inj s t blk' blk te' te h5 hL h2 hl h3 hρ h4
      subst this
      exact h6 ht
    have hI := hM.sep te.b hown
    simp [immKill, hI, hown, hno]
  · refine hM.freeze (killL L ts) _ (killL_length ts L) (fun t blk h1 h2 => (hlive t blk h1 h2).1) hle (fun b o h => ⟨hok b o h, ?_⟩) (fun b o h => (hcase b o h).imp_right fun h => h.1)
    rcases hcase b o h with h1 | ⟨_, h2, _⟩
    · intro hc
      have := hM.sep b (hsub b hc)
      rw [this] at h1; cases h1
    · exact h2

def sealO (L : List Blk) : Out → Out
  | .ret v => .ret (sealV 6 L v)
  | .pan v => .pan (sealV 6 L v)

theorem OutRel.mono {ρ ρ' I I'} (hρ : TEs.le ρ ρ') (hI : Imm.le I I') {o : Out} {e : Ending} (h : OutRel ρ I o e) : OutRel ρ' I' o e := by
  cases o with
  | ret v => cases e <;> first | exact Rel.mono hρ hI h | exact h.elim
  | pan v =>
    cases e with
    | panicked ch =>
      cases ch with
      | nil => exact h.elim
      | cons c ch => cases ch with
        | nil => exact ⟨h.1, h.2.1, h.2.2.mono hρ hI⟩
        | cons => exact h.elim
    | returned => exact h.elim
    | outgrown => exact h.elim

/-- Values that lead to no memory. -/
def flatV : Nat → V → Bool
  | 0, _ => false
  | n + 1, v => match v with
    | .bool _ | .int _ _ | .str _ | .nilPtr | .nilSl | .nilMap | .nilFunc | .nilIface | .any => true
    | .iface _ v => flatV n v
    | .agg l => l.all (flatV n)
    | .tup l => l.all (flatV n)
    | .fn _ l => l.all (flatV n)
    | _ => false
theorem flat_rel {ρ I J} (n : Nat) : ∀ (v : V) (x : Value), flatV n v = true → Rel ρ I v x → Rel [] J v x := by
  induction n with
  | zero => intro v x h; simp [flatV] at h
  | succ n ih =>
    have ihs : ∀ (l : List V) (xs : List Value), l.all (flatV n) = true → Rels ρ I l xs → Rels [] J l xs := by
      intro l
      induction l with
      | nil => intro xs _ h; cases h; exact .nil
      | cons v l ihl =>
        intro xs h1 h2
        simp only [List.all_cons, Bool.and_eq_true] at h1
        cases h2 with | cons _ _ x xs h hs => exact .cons _ _ _ _ (ih v x h1.1 h) (ihl xs h1.2 hs)
    intro v x hf h
    cases h with
    | bool => exact .bool _
    | int => exact .int _ _
    | str s l h => exact .str s l h
    | nilPtr => exact .nilPtr
    | nilSl => exact .nilSl
    | nilMap => exact .nilMap
    | nilFunc => exact .nilFunc
    | nilIface => exact .nilIface
    | any => exact .any _
    | iface t v x h => exact .iface _ _ _ (ih v x hf h)
    | agg l xs h => exact .agg _ _ (ihs l _ hf h)
    | tup l xs h => exact .tup _ _ (ihs l _ hf h)
    | fn f l xs h => exact .fn _ _ _ (ihs l _ hf h)
    | _ => simp [flatV] at hf
def flatO : Out → Bool
  | .ret v => flatV 6 v
  | .pan v => flatV 6 v

def sealL (L : List Blk) : List V → List V
  | [] => []
  | v :: l => sealV 6 L v :: sealL L l
def tagsL (L : List Blk) : List V → List Nat
  | [] => []
  | v :: l => tagsV 6 L v ++ tagsL L l

theorem sealL_rel {ρ I L w} (hM : Mod ρ I L w) {J : Imm} (hJ : Imm.le I J) : ∀ {l : List V} {xs : List Value}, Rels ρ I l xs → (∀ t ∈ tagsL L l, ∀ te blk, L[t]? = some blk → blk.live = true → ρ[t]? = some (some te) → J te.b = w.heap[te.b]?) → Rels [] J (sealL L l) xs
  | [], _, h, _ => by cases h; exact .nil
  | v :: l, _, h, ht => by
    cases h with | cons _ _ x xs h hs =>
    exact .cons _ _ _ _ (seal_rel hM hJ 6 v x h fun t hm => ht t (by simp [tagsL, hm])) (sealL_rel hM hJ hs fun t hm => ht t (by simp [tagsL, hm]))

/-! ### What a sealed value leans on -/
theorem tags_seal_congr {L L' : List Blk} (n : Nat) : ∀ v : V, (∀ t ∈ tagsV n L v, nth L' t = nth L t) → tagsV n L' v = tagsV n L v ∧ sealV n L' v = sealV n L v := by
  induction n with
  | zero => intro v _; exact ⟨by simp [tagsV], by cases v <;> simp [sealV]⟩
  | succ n ih =>
    have ihl : ∀ l : List V, (∀ t ∈ l.flatMap (tagsV n L), nth L' t = nth L t) → l.flatMap (tagsV n L') = l.flatMap (tagsV n L) ∧ l.map (sealV n L') = l.map (sealV n L) := by
      intro l
      induction l with
      | nil => intro _; exact ⟨rfl, rfl⟩
      | cons v l ihl =>
        intro h
        obtain ⟨h1, h2⟩ := ih v fun t ht => h t (by simp only [List.flatMap_cons, List.mem_append]; exact .inl ht)
        obtain ⟨h3, h4⟩ := ihl fun t ht => h t (by simp only [List.flatMap_cons, List.mem_append]; exact .inr ht)
        exact ⟨by simp only [List.flatMap_cons, h1, h3], by simp only [List.map_cons, h2, h4]⟩
    intro v h
    cases v with
    | sl t sz off len cap =>
      have := h t (by simp [tagsV])
      exact ⟨by simp [tagsV], by simp only [sealV, this]⟩
    | slf t esz off len cap =>
      have ht : nth L' t = nth L t := h t (by simp only [tagsV]; split <;> simp)
      cases hb : nth L t with
      | none => exact ⟨by simp only [tagsV, ht, hb], by simp only [sealV, ht, hb]⟩
      | some b =>
        cases b with
        | fix e cs =>
          obtain ⟨h3, h4⟩ := ihl cs fun s hs => h s (by simp only [tagsV, hb]; exact List.mem_cons_of_mem _ hs)
          refine ⟨by simp only [tagsV, ht, hb, h3], ?_⟩
          simp only [sealV, ht, hb]
          congr 1
          funext i
          have : ∀ (l l2 : List V), l.map (sealV n L') = l.map (sealV n L) → ∀ a b, ((l.drop a).take b).map (sealV n L') = ((l.drop a).take b).map (sealV n L) := by
            intro l _ hl a b
            rw [List.map_take, List.map_drop, hl, ← List.map_drop, ← List.map_take]
          exact this cs cs h4 _ _
        | _ => exact ⟨by simp only [tagsV, ht, hb], by simp only [sealV, ht, hb]⟩
    | fn f l => obtain ⟨h1, h2⟩ := ihl l (by simpa only [tagsV] using h); exact ⟨by simpa only [tagsV] using h1, by simp only [sealV, h2]⟩
    | iface t v => obtain ⟨h1, h2⟩ := ih v (by simpa only [tagsV] using h); exact ⟨by simpa only [tagsV] using h1, by simp only [sealV, h2]⟩
    | agg l => obtain ⟨h1, h2⟩ := ihl l (by simpa only [tagsV] using h); exact ⟨by simpa only [tagsV] using h1, by simp only [sealV, h2]⟩
    | tup l => obtain ⟨h1, h2⟩ := ihl l (by simpa only [tagsV] using h); exact ⟨by simpa only [tagsV] using h1, by simp only [sealV, h2]⟩
    | _ => exact ⟨by simp [tagsV], by simp [sealV]⟩
theorem tags_sealL_congr {L L' : List Blk} : ∀ l : List V, (∀ t ∈ tagsL L l, nth L' t = nth L t) → tagsL L' l = tagsL L l ∧ sealL L' l = sealL L l
  | [], _ => ⟨rfl, rfl⟩
  | v :: l, h => by
    obtain ⟨h1, h2⟩ := tags_seal_congr (L := L) (L' := L') 6 v fun t ht => h t (by simp [tagsL, ht])
    obtain ⟨h3, h4⟩ := tags_sealL_congr (L := L) (L' := L') l fun t ht => h t (by simp [tagsL, ht])
    exact ⟨by simp only [tagsL, h1, h3], by simp only [sealL, h2, h4]⟩

/-- A call that always answers v, and leaves all as it was; what was handed over may be given up (kl). -/
def CallDV (P : Program) (f : Nat) (Vs : List V) (L : List Blk) (v : V) (kl : List Nat) : Prop :=
  Pure P f (sealL L Vs) (fun o => o = .ret v) ∧ (((flatV 6 v = true ∨ tagsL L Vs = []) ∧ kl = []) ∨ kl = tagsL L Vs)

theorem callD_ok {P f Vs L LD v kl} (h : CallDV P f Vs L v kl) (ha : ∀ t ∈ tagsL L Vs, nth LD t = nth L t) {ρ I w} {xs : Array Value} (hM : Mod ρ I LD w) (hxs : Rels ρ I Vs xs.toList) :
    Calls P f xs w fun e w' => ∃ I' x, e = .returned x ∧ Rel ρ I' v x ∧ Mod ρ I' (killL LD kl) w' ∧ Stp ρ I LD w ρ I' (killL LD kl) w' := by
  obtain ⟨h1, h2⟩ := h
  obtain ⟨c1, c2⟩ := tags_sealL_congr (L := L) (L' := LD) Vs ha
  obtain ⟨k1, k2, k3, k4, k5, k6⟩ := hM.kill (tagsL LD Vs)
  rw [← c2] at h1
  refine (h1 _ w xs k5.glob k2 (sealL_rel hM k1 hxs k4)).mono ?_
  rintro e w' ⟨o, I', rfl, hO, hI', hle, hnew, hb⟩
  cases e with
  | returned x =>
    have h3 : (flatV 6 v = true ∧ kl = []) ∨ kl = tagsL LD Vs := by
      rcases h2 with ⟨h2 | h2, h4⟩ | h2
      · exact .inl ⟨h2, h4⟩
      · exact .inr (by rw [c1, h2, h4])
      · exact .inr (by rw [c1, h2])
    rcases h3 with ⟨hfl, rfl⟩ | rfl
    · obtain ⟨m1, m2⟩ := hM.below hb
      exact ⟨I, x, rfl, (flat_rel (J := I) 6 v x hfl hO).mono (TEs.nil_le ρ) (Imm.le_refl I), m1, m2⟩
    · have hsep : ∀ b o, I' b = some o → ¬ Own ρ (killL LD (tagsL LD Vs)) b := by
        intro b ob hb' hc
        rcases hnew b ob hb' with h3 | h3
        · have := k5.sep b hc; rw [this] at h3; cases h3
        · obtain ⟨t, te, blk, a1, a2, a3, a4⟩ := hc
          have := k5.blk_lt a1 a2 a3; omega
      obtain ⟨m1, m2⟩ := k5.below hb
      have hM2 : Mod ρ I' (killL LD (tagsL LD Vs)) w' := ⟨m1.len, fun t b te h1 h2 h3 => by
          obtain ⟨o, h4, h5⟩ := m1.own t b te h1 h2 h3
          exact ⟨o, h4, h5.mono (TEs.le_refl _) hle⟩, m1.inj, hI', fun b hb' => by
          cases hc : I' b with
          | none => rfl
          | some ob => exact absurd hb' (hsep b ob hc), m1.glob.mono hle⟩
      refine ⟨I', x, rfl, Rel.mono (TEs.nil_le ρ) (Imm.le_refl I') hO, hM2, k6.trans ⟨TEs.le_refl _, Nat.le_refl _, hle, fun b ob h1 => ?_, fun b hb' => .inl hb', hb.os, hb.tape, hb.output, hb.size, fun b hlt _ => hb.block b hlt⟩⟩
      rcases hnew b ob h1 with h2 | h2
      · exact .inl h2
      · exact .inr (.inr h2)
  | panicked => exact hO.elim
  | outgrown => exact hO.elim

end Go.Vx
