/- copy; bytes as a text; a slice held against nil. Bytes as a text, by value and without a copy; slices held against nil; pointers held against one another. -/
import Derived.Test.YtkhbmendaapojaaGreatDoorPkBa4
import Derived.Laws.BytesString
import Derived.Lib.UnsafeStr
import Derived.Lib.Builder
set_option linter.unusedSimpArgs false
set_option linter.unusedVariables false
/- copy; bytes as a text; a slice held against nil. -/
namespace Go.Vx
open Go Go.RowKit

def cpF {α : Type} (off m : Nat) (f g : Nat → α) : Nat → α := fun i =>
  match Nat.ble off i with
  | true => match Nat.blt (i - off) m with
    | true => g (i - off)
    | false => f i
  | false => f i
theorem cpF_in {α : Type} {off m : Nat} {f g : Nat → α} {i : Nat} (h : i < m) : cpF off m f g (off + i) = g i := by
  have h1 : Nat.ble off (off + i) = true := Nat.ble_eq.mpr (by omega)
  have h2 : Nat.blt (off + i - off) m = true := Nat.ble_eq.mpr (by omega)
  simp only [cpF, h1, h2]
  congr 1; omega
theorem cpF_out {α : Type} {off m : Nat} {f g : Nat → α} {i : Nat} (h : i < off ∨ off + m ≤ i) : cpF off m f g i = f i := by
  unfold cpF
  split
  · rename_i h1
    have h1 := Nat.le_of_ble_eq_true h1
    split
    · rename_i h2
      have h2 : i - off + 1 ≤ m := Nat.le_of_ble_eq_true h2
      omega
    · rfl
  · rfl

def copyV (T : Tab) (L : List Blk) (dt st : Nat) (d x : V) : PR :=
  match (T dt).ty with
  | .slice e => match (T e).ty.known, (T e).size, shOf (T e).zero, strSl (T st).ty x with
    | true, sz + 1, some sh, true => match newsOf L sh (sz + 1) x with
      | some N => match d with
        | .sl t z off len _ => match natEq z (sz + 1), nth L t with
          | true, some (.arr e' sh' fi fb fs) => match shEq sh' sh with
            | true => reqO N.p (.grd (decide (N.m ≤ len) && decide (0 < len)) (.updv t (.arr e' sh (cpF off N.m fi N.gi) (cpF off N.m fb N.gb) (cpF off N.m fs N.gs)) (.int .i64 (N.m : Int))))
            | false => .bad
          | _, _ => .bad
        | _ => .bad
      | none => .bad
    | _, _, _, _ => .bad
  | _ => .bad

theorem copyV_ok {T : Tab} {P : Program} (hT : TOk P T) {ρ I L w} (hM : Mod ρ I L w) {st tx ty : Nat} {s x : V} {xs xx : Value} (hxs : Rel ρ I s xs) (hxx : Rel ρ I x xx) {sm : Sem Next}
    (hs : sm.run P w = ((Builtin.copy_ #[st, tx] ty #[xs, xx]).run P w).andThen fun v w' => .ok (.value v) w') : (copyV T L st tx s x).Ok P ρ I L w sm := by
  unfold copyV
  split <;> try trivial
  rename_i e hty
  split <;> try trivial
  rename_i sz sh hke hsize hsh hstr
  split <;> try trivial
  rename_i N hN
  have hk : (T st).ty.known = true := by rw [hty]; rfl
  obtain ⟨d, hd, hdo⟩ := under hT hk
  rw [hty] at hdo
  cases d <;> simp [DescOk] at hdo
  subst hdo
  rename_i e
  obtain ⟨ie, de, g1, g2, g3, g4, g5, ⟨z, g6, g7, g8⟩, _⟩ := (hT.ok hke).ex
  have hshl : sh.length = sz + 1 := by
    have a1 := (g8 ρ I).length
    have a2 : (T e).zero.length = sh.length := by rw [← shOf_eq 0 hsh, shV_length]
    simp at a1; omega
  have hkind : ((∃ e, P.underlying tx = some (.slice e)) ∧ ∀ l, x ≠ .str l) ∨ (P.underlying tx = some .string ∧ ∃ l, x = .str l) := by
    unfold strSl at hstr
    split at hstr
    · rename_i l hty'
      obtain ⟨d', hd', hdo'⟩ := under hT (t := tx) (by rw [hty']; rfl)
      rw [hty'] at hdo'
      cases d' <;> simp [DescOk] at hdo'
      exact .inr ⟨hd', l, rfl⟩
    · cases hstr
    · rename_i e' hty' hne
      obtain ⟨d', hd', hdo'⟩ := under hT (t := tx) (by rw [hty']; rfl)
      rw [hty'] at hdo'
      cases d' <;> simp [DescOk] at hdo'
      exact .inl ⟨⟨_, hd'⟩, fun l hl => hne l hl⟩
    · cases hstr
  have hreq : ∀ {r : PR}, ((∀ p, N.p = some p → p) → r.Ok P ρ I L w sm) → (reqO N.p r).Ok P ρ I L w sm := by
    intro r hr
    unfold reqO
    split
    · rename_i hp; exact hr fun p h => by rw [hp] at h; cases h
    · rename_i p hp; exact fun hpp => hr fun q h => by rw [hp] at h; cases h; exact hpp
  split <;> try trivial
  rename_i t zz off len cp
  split <;> try trivial
  rename_i e' sh' fi fb fs hzz hL
  split <;> try trivial
  rename_i hsheq
  have := shEq_eq hsheq
  subst this
  refine hreq fun hp hf => ?_
  simp at hf
  obtain ⟨hml, hl0⟩ := hf
  obtain ⟨news, n1, n2⟩ := news_ok hM hshl (by omega) hxx hN hp hkind
  have hzq := natEq_eq hzz
  rw [nth_eq] at hL
  cases hxs with
  | slNil => omega
  | sl _ _ _ _ _ c te o hρ hz hl hlc hcc hc ho =>
  obtain ⟨o', ho', ⟨arr, el, rfl, h2, h3, h4⟩, a0, ha0⟩ := hM.own _ _ te hL rfl hρ
  cases ha0
  have hts : te.sz = sh'.length := by omega
  have hoo := ho (by omega)
  have hnl : news.length = N.m * te.sz := by rw [n2.1, hts]
  have hb1 : (off + len) * te.sz ≤ te.m * te.sz := Nat.mul_le_mul_right _ (by omega)
  rw [Nat.add_mul] at hb1
  have hb2 : N.m * te.sz ≤ len * te.sz := Nat.mul_le_mul_right _ hml
  have hst := run_storeCells_at (P := P) te.b (te.o + off * te.sz) _ news 0 arr w ho' (by simp; omega) (n2.one (by omega))
  simp only [Nat.add_zero] at hst
  have hturn := turn_setRow (w := w) (b := te.b) (cs := (arr.toList.take (te.o + off * te.sz) ++ news ++ arr.toList.drop (te.o + off * te.sz + news.length)).toArray) ho'
  refine ⟨_, te, _, _, .int .i64 (N.m : Int), hL, rfl, hρ, ?_, hturn, .int _ _, .inl ?_⟩
  · refine ⟨⟨_, _, rfl, h2, ?_, fun i hi => ⟨by simp [cellsOf, shV_length]; omega, ?_⟩⟩, _, rfl⟩
    · simp; omega
    · simp only [List.toList_toArray, cellsOf]
      have hi2 : (i + 1) * te.sz ≤ te.m * te.sz := Nat.mul_le_mul_right _ (by omega)
      rw [Nat.add_mul, Nat.one_mul] at hi2
      by_cases hin : off ≤ i ∧ i < off + N.m
      · obtain ⟨j, rfl⟩ : ∃ j, i = off + j := ⟨i - off, by omega⟩
        have hj : j < N.m := by omega
        rw [cpF_in hj, cpF_in hj, cpF_in hj]
        have hr := n2.2 j hj
        have hj2 : (j + 1) * sh'.length ≤ N.m * sh'.length := Nat.mul_le_mul_right _ (by omega)
        rw [hts] at hnl
        rw [Nat.add_mul, Nat.one_mul] at hj2
        have e : ((arr.toList.take (te.o + off * te.sz) ++ news ++ arr.toList.drop (te.o + off * te.sz + news.length)).drop (te.o + (off + j) * te.sz)).take te.sz = (news.drop (j * sh'.length)).take sh'.length := by
          rw [Nat.add_mul, ← Nat.add_assoc, ← List.drop_drop, List.append_assoc, List.drop_left' (by simp; omega)]
          rw [hts, List.drop_append_of_le_length (by omega), List.take_append_of_le_length (by simp; omega)]
        rw [e]
        exact hr.mono (TEs.nil_le _) (Imm.le_refl _)
      · have hout : i < off ∨ off + N.m ≤ i := by omega
        rw [cpF_out hout, cpF_out hout, cpF_out hout]
        have e := drop_take_splice arr.toList news (te.o + i * te.sz) (te.o + off * te.sz) te.sz (by simp; omega) (by
          rcases hout with h | h
          · left; have : (i + 1) * te.sz ≤ off * te.sz := Nat.mul_le_mul_right _ (by omega); rw [Nat.add_mul, Nat.one_mul] at this; omega
          · right; have : (off + N.m) * te.sz ≤ i * te.sz := Nat.mul_le_mul_right _ (by omega); rw [Nat.add_mul] at this; omega)
        rw [e]
        exact (h4 i hi).2
  · rw [hs]
    have hszz : ie.size = sz + 1 := by omega
    have hmin : Nat.min N.m len = N.m := Nat.min_eq_left hml
    rw [← hshl] at n1 hszz
    rw [← hszz] at n1
    simp only [Builtin.copy_, List.getElem?_toArray, List.getElem?_cons_zero, List.getElem?_cons_succ, Sem.run_bind, run_underlying hd, Result.andThen_ok, n1.len, hmin, sizeOf, run_typeInfo g1, Sem.run_pure, n1.cells, hoo, hst, goInt]

end Go.Vx
/- Bytes as a text, by value and without a copy; slices held against nil; pointers held against one another. -/
namespace Go.Vx
open Go Go.RowKit

/-- n bytes from place i on. -/
def bytesAt (f : Nat → Int) : Nat → Nat → List UInt8
  | _, 0 => []
  | i, n + 1 => UInt8.ofNat (f i).toNat :: bytesAt f (i + 1) n
def isByte (T : Tab) (e : Nat) : Bool := match (T e).ty with
  | .int .u8 => true
  | _ => false
def isU8 : List Sh → Bool
  | [.int .u8] => true
  | _ => false
theorem isU8_eq {sh : List Sh} (h : isU8 sh = true) : sh = [.int .u8] := by
  unfold isU8 at h
  split at h
  · rfl
  · cases h

/-- A text made of bytes. -/
def bytesStrV (T : Tab) (L : List Blk) (s : Nat) (x : V) : PR :=
  match (T s).ty with
  | .slice e => match isByte T e with
    | true => match newsOf L [.int .u8] 1 x with
      | some N => match x with
        | .str _ => .bad
        | _ => reqO N.p (.val (.str (bytesAt (fun i => N.gi i 0) 0 N.m)))
      | none => .bad
    | false => .bad
  | _ => .bad
/-- Where a slice's memory begins. -/
def sliceDataV (x : V) : PR :=
  match x with
  | .sl t sz off len _ => .grd (decide (0 < len)) (.val (.sp t sz off len))
  | .nilSl => .val .nilPtr
  | _ => .bad
/-- A text out of memory that nobody will write any more. -/
def unsafeStrV (T : Tab) (L : List Blk) (pt : Nat) (x n : V) : PR :=
  match (T pt).ty, x, n with
  | .ptr e, .sp t _ off len, .int _ k => match isByte T e, nth L t with
    | true, some (.arr e' sh gi _ _) => match isU8 sh, natEq e' e && natEq (T e).size 1 with
      | true, true => .grd (decide (k = (len : Int)) && decide (len ≤ 4611686018427387904)) (.updv t .dead (.str (bytesAt (fun i => gi (off + i) 0) 0 len)))
      | _, _ => .bad
    | _, _ => .bad
  | .ptr _, .nilPtr, .int _ k => .grd (decide (k = 0)) (.val (.str []))
  | _, _, _ => .bad

/-- Two tests that need more than the values: a slice held against nil (one of no elements may be nil or not), an address held against itself. -/
def cmpV (T : Tab) (op : BinOp) (t : Nat) (x y : V) : Option PR :=
  match op, (T t).ty with
  | .eql, .slice _ => match y, x with
    | .nilSl, .ro _ n _ => some (.all (fun i => i = 0 ∨ (i = 1 ∧ n = 0)) (fun i => .val (.bool (natEq i 1))))
    | .nilSl, .sl _ _ _ n _ => some (.all (fun i => i = 0 ∨ (i = 1 ∧ n = 0)) (fun i => .val (.bool (natEq i 1))))
    | _, _ => none
  | .neq, .slice _ => match y, x with
    | .nilSl, .ro _ n _ => some (.all (fun i => i = 0 ∨ (i = 1 ∧ n = 0)) (fun i => .val (.bool (!natEq i 1))))
    | .nilSl, .sl _ _ _ n _ => some (.all (fun i => i = 0 ∨ (i = 1 ∧ n = 0)) (fun i => .val (.bool (!natEq i 1))))
    | _, _ => none
  | .neq, .ptr e => match y, x, (T e).ty.known with
    | .ptr b i s, .ptr b' i' s', true => match natEq b b', natEq i i', natEq s s' with
      | true, true, true => some (.val (.bool false))
      | _, _, _ => none
    | _, _, _ => none
  | _, _ => none

theorem rows_bytes {I : Imm} {gb gs} : ∀ {m : Nat} {gi : Nat → Nat → Int} {news : List Value}, RowsAre I [.int .u8] m gi gb gs news → news = (List.range m).map fun i => .int .u8 (gi i 0) := by
  intro m gi news h
  obtain ⟨h1, h2⟩ := h
  simp at h1
  apply List.ext_getElem?
  intro i
  by_cases hi : i < m
  · have := h2 i hi
    simp only [shV, List.length_cons, List.length_nil, Nat.zero_add, Nat.mul_one] at this
    generalize hx : (List.drop i news).take 1 = xs at this
    cases this with | cons _ _ x xs hv hs =>
    cases hs; cases hv
    have e : (List.drop i news)[0]? = some (.int .u8 (gi i 0)) := by
      have := congrArg (fun l => l[0]?) hx
      simpa [List.getElem?_take] using this
    rw [List.getElem?_drop, Nat.add_zero] at e
    rw [e]; simp [hi]
  · rw [List.getElem?_eq_none (by omega)]; simp [hi]
theorem bytesAt_eq (f : Nat → Int) : ∀ (n i : Nat), bytesAt f i n = (List.range' i n).map fun j => UInt8.ofNat (f j).toNat
  | 0, i => rfl
  | n + 1, i => by simp only [bytesAt, List.range'_succ, List.map_cons, bytesAt_eq f n (i + 1)]

theorem foldl_push (ns : List Int) : ∀ (s : ByteArray), (ns.foldl (fun (r : ByteArray) n => r.push (UInt8.ofNat n.toNat)) s).data.toList = s.data.toList ++ ns.map fun n => UInt8.ofNat n.toNat := by
  induction ns with
  | nil => intro s; simp
  | cons n ns ih => intro s; rw [List.foldl_cons, ih]; simp [ByteArray.push]
theorem isByte_ty {P : Program} {T : Tab} (hT : TOk P T) {e : Nat} (h : isByte T e = true) : P.underlying e = some (.int .u8) ∧ (T e).ty = .int .u8 := by
  unfold isByte at h
  split at h
  · rename_i hty
    obtain ⟨d, hd, hdo⟩ := under hT (t := e) (by rw [hty]; rfl)
    rw [hty] at hdo
    cases d <;> simp [DescOk] at hdo
    subst hdo
    exact ⟨hd, hty⟩
  · cases h

theorem bytesStr_ok {P : Program} {T : Tab} (hT : TOk P T) {ρ I L w} (hM : Mod ρ I L w) {src dst : Nat} {u : V} {x : Value} (hu : Rel ρ I u x) (hd : (T dst).ty = .str) (s : Sem Next)
    (hs : s.run P w = ((convert src dst x).run P w).andThen fun v w' => .ok (.value v) w') : (bytesStrV T L src u).Ok P ρ I L w s := by
  unfold bytesStrV
  split <;> try trivial
  rename_i e hty
  split <;> try trivial
  rename_i he
  split <;> try trivial
  rename_i N hN
  obtain ⟨hue, hte⟩ := isByte_ty hT he
  obtain ⟨d1, hd1, hdo1⟩ := under hT (t := src) (by rw [hty]; rfl)
  rw [hty] at hdo1
  cases d1 <;> simp [DescOk] at hdo1
  subst hdo1
  rename_i e
  obtain ⟨d2, hd2, hdo2⟩ := under hT (t := dst) (by rw [hd]; rfl)
  rw [hd] at hdo2
  cases d2 <;> simp [DescOk] at hdo2
  have main : (∀ l, u ≠ .str l) → (reqO N.p (.val (.str (bytesAt (fun i => N.gi i 0) 0 N.m)))).Ok P ρ I L w s := by
    intro hstr
    have hx : (∃ n c, x = .slice none n c) ∨ ∃ a n c, x = .slice (some a) n c := by
      cases hu <;> first | exact .inl ⟨_, _, rfl⟩ | exact .inr ⟨_, _, _, rfl⟩ | (simp [newsOf] at hN; done) | exact absurd rfl (hstr _)
    have fin : (∀ p, N.p = some p → p) → (PR.val (.str (bytesAt (fun i => N.gi i 0) 0 N.m))).Ok P ρ I L w s := by
      intro hp
      obtain ⟨news, n1, n2⟩ := news_ok (tx := src) hM (sh := [.int .u8]) (sz := 1) rfl (by omega) hu hN hp (.inl ⟨⟨_, hd1⟩, hstr⟩)
      have hnews := rows_bytes n2
      have hbytes : bytesAt (fun i => N.gi i 0) 0 N.m = ((List.range N.m).map fun i => N.gi i 0).map fun n => UInt8.ofNat n.toNat := by
        rw [bytesAt_eq, List.range_eq_range', List.map_map]; rfl
      rcases hx with ⟨n, c, rfl⟩ | ⟨a, n, c, rfl⟩
      · have h0 := n1.cells
        simp [Builtin.firstCells] at h0
        have hm : N.m = 0 := by have := congrArg List.length hnews; rw [h0] at this; simpa using this.symm
        refine ⟨.string .empty, .str _ _ (by rw [hm]; rfl), .inl ?_⟩
        rw [hs]
        simp [convert, run_underlying hd1, run_underlying hd2, run_underlying hue, Conv.bytesToString]
      · have hn : n = N.m := by
          have := n1.len w
          simpa [Builtin.lenOf] using this
        subst hn
        have hc := n1.cells
        simp only [Builtin.firstCells, Nat.mul_one] at hc
        rw [hnews] at hc
        have hr := run_bytesToString (P := P) w a N.m c ((List.range N.m).map fun i => N.gi i 0) (by rw [hc, List.map_map]; rfl)
        refine ⟨.string (((List.range N.m).map fun i => N.gi i 0).foldl (fun r n => r.push (UInt8.ofNat n.toNat)) ByteArray.empty), .str _ _ (by rw [foldl_push, hbytes]; simp), .inl (by rw [hs, run_convert_bytes_string w src dst _ _ _ _ hd1 hue hd2, hr]; rfl)⟩
    unfold reqO
    split
    · rename_i hp; exact fin fun p h => by rw [hp] at h; cases h
    · rename_i p hp; exact fun hpp => fin fun q h => by rw [hp] at h; cases h; exact hpp
  split <;> try trivial
  rename_i hstr
  exact main fun l hl => hstr l hl

theorem sliceData_ok {P : Program} {ρ I L w} {u : V} {x : Value} (hu : Rel ρ I u x) {ts : Array TypeId} {ty : Nat} (s : Sem Next)
    (hs : s.run P w = ((Builtin.unsafeSliceData_ ts ty #[x]).run P w).andThen fun v w' => .ok (.value v) w') : (sliceDataV u).Ok P ρ I L w s := by
  unfold sliceDataV
  split <;> try trivial
  · intro hl
    simp at hl
    cases hu with
    | slNil => omega
    | sl _ _ _ _ _ c te o h hz hle hlc hcc hc ho =>
      refine ⟨_, .sp _ _ _ _ te h hz hle hl, .inl ?_⟩
      rw [hs, Lib.run_unsafeSliceData_row w ts ty _ _ _ (by omega), ho (by omega)]; rfl
  · cases hu
    exact ⟨_, .nilPtr, .inl (by rw [hs, Lib.run_unsafeSliceData_nil w]; rfl)⟩

theorem liesAt_off {P : Program} {e : TypeId} (hc : P.cellsOf e = 1) (count off n : Nat) (hn : off + n ≤ count) : liesAt P P.depth e count off e n = true := by
  have hd : P.depth = (2 * (P.types.size + Made.depth) + 1) + 1 := rfl
  rw [hd]
  simp only [liesAt, Bool.or_eq_true]
  left
  rw [hd]
  simp [rowAt, hc, hn, sameLayout, Nat.mod_one]
theorem cellsOf_one {P : Program} {T : Tab} (hT : TOk P T) {e : Nat} (he : (T e).ty = .int .u8) (h1 : natEq (T e).size 1 = true) : P.cellsOf e = 1 := by
  obtain ⟨i, d, g1, g2, g3, _⟩ := (hT.ok (t := e) (by rw [he]; rfl)).ex
  simp [Program.cellsOf, g1, g3, natEq_eq h1]
theorem run_loadBytesI {P : Program} (w : World) (b : Nat) : ∀ (n o : Nat) (f : Nat → Int) (i : Nat) (acc : ByteArray), (∀ j, j < n → w.cell? ⟨b, o + j, none⟩ = some (.int .u8 (f (i + j)))) →
    (loadBytes ⟨b, o, none⟩ acc n).run P w = .ok ⟨(acc.data.toList ++ bytesAt f i n).toArray⟩ w
  | 0, o, f, i, acc, _ => by simp [loadBytes, bytesAt]
  | n + 1, o, f, i, acc, h => by
    have h0 := h 0 (by omega)
    simp only [Nat.add_zero] at h0
    have ih := run_loadBytesI (P := P) w b n (o + 1) f (i + 1) (acc.push (UInt8.ofNat (f i).toNat)) (fun j hj => by
      have := h (j + 1) (by omega)
      rw [show o + 1 + j = o + (j + 1) by omega, show i + 1 + j = i + (j + 1) by omega]; exact this)
    simp only [loadBytes, Sem.run_bind, run_load, h0, Result.andThen_ok, addr_add]
    have e : (f i).toNat.toUInt8 = UInt8.ofNat (f i).toNat := rfl
    rw [e, ih]
    simp [ByteArray.push, bytesAt]
theorem turn_freeze {w : World} {b o n : Nat} {arr : Array Value} {el : TypeId} {fz : Nat × Nat} (h : w.heap[b]? = some (.cells arr el fz)) : ∃ o', Turn w b o' (w.freeze ⟨b, o, none⟩ n) := by
  have hlt := (Array.getElem?_eq_some_iff.1 h).1
  unfold World.freeze
  split
  · exact ⟨_, h, fun _ _ => rfl, rfl, rfl, rfl, rfl⟩
  · refine ⟨.cells arr el (if fz.1 == fz.2 then (o, o + n) else (min fz.1 o, max fz.2 (o + n))), ⟨?_, fun k hk => ?_, by simp, rfl, rfl, rfl⟩⟩
    · simp only [Array.getElem?_modify, if_true, h, Option.map_some]
    · simp [Array.getElem?_modify, Ne.symm hk]
theorem unsafeStr_ok {P : Program} {T : Tab} (hT : TOk P T) {ρ I L w} (hM : Mod ρ I L w) {pt it ty : Nat} {u n : V} {x y : Value} (hu : Rel ρ I u x) (hn : Rel ρ I n y) (s : Sem Next)
    (hs : s.run P w = ((Builtin.unsafeString_ #[pt, it] ty #[x, y]).run P w).andThen fun v w' => .ok (.value v) w') : (unsafeStrV T L pt u n).Ok P ρ I L w s := by
  have hmax : IntKind.i64.max = 9223372036854775807 := rfl
  unfold unsafeStrV
  split <;> try trivial
  · rename_i e t sz off len κ k hty
    split <;> try trivial
    rename_i e' sh gi gb gs he hL
    split <;> try trivial
    rename_i hsh hee
    intro hc
    simp only [Bool.and_eq_true, decide_eq_true_eq] at hc hee
    obtain ⟨rfl, hbig⟩ := hc
    have := isU8_eq hsh; subst this
    have := natEq_eq hee.1; subst this
    obtain ⟨hue, hte⟩ := isByte_ty hT he
    have hc1 := cellsOf_one hT hte hee.2
    rw [nth_eq] at hL
    obtain ⟨dp, hdp, hdpo⟩ := under hT (t := pt) (by rw [hty]; rfl)
    rw [hty] at hdpo
    cases dp <;> simp [DescOk] at hdpo
    subst hdpo
    rename_i e1
    cases hu with | sp _ _ _ _ te hρ hz hl h0 =>
    cases hn
    obtain ⟨o, ho, ⟨arr, el, rfl, h2, h3, h4⟩, a0, ha0⟩ := hM.own _ _ te hL rfl hρ
    cases ha0
    have hsz : te.sz = 1 := by have := (h4 off (by omega)).1; simpa [cellsOf, shV] using this.symm
    have hb1 : (off + len) * te.sz ≤ te.m * te.sz := Nat.mul_le_mul_right _ (by omega)
    rw [hsz] at hb1 h3
    have hcell : ∀ j, j < len → w.cell? ⟨te.b, te.o + off * te.sz + j, none⟩ = some (.int .u8 (gi (off + j) 0)) := by
      intro j hj
      have := (h4 (off + j) (by omega)).2
      simp only [cellsOf, shV, hsz, Nat.mul_one] at this
      generalize hx : List.take 1 (List.drop (te.o + (off + j)) arr.toList) = xs at this
      cases this with | cons _ _ v xs hv hs =>
      cases hs; cases hv
      have e1 : (List.drop (te.o + (off + j)) arr.toList)[0]? = some (.int .u8 (gi (off + j) 0)) := by
        have := congrArg (fun l => l[0]?) hx
        simpa [List.getElem?_take] using this
      rw [List.getElem?_drop, Nat.add_zero] at e1
      simp only [World.cell?, ho, hsz, Nat.mul_one]
      rw [← e1]; simp [Nat.add_assoc]
    have hlb := run_loadBytesI (P := P) w te.b len (te.o + off * te.sz) (fun i => gi (off + i) 0) 0 .empty (fun j hj => by rw [hcell j hj]; simp)
    have hsh : w.shape? te.b = some (e1, arr.size) := by simp [World.shape?, ho]
    have hlies := liesAt_off (P := P) hc1 (arr.size / P.cellsOf e1) (te.o + off * te.sz) len (by rw [hc1, hsz]; simp; omega)
    obtain ⟨o', hturn⟩ := turn_freeze (o := te.o + off * te.sz) (n := len) ho
    refine ⟨_, te, o', _, .string ⟨(bytesAt (fun i => gi (off + i) 0) 0 len).toArray⟩, hL, rfl, hρ, trivial, hturn, .str _ _ (by simp), .inl ?_⟩
    rw [hs]
    have hdef : Builtin.unsafeString_ #[pt, it] ty #[.pointer (some ⟨te.b, te.o + off * te.sz, none⟩), .int κ (len : Int)] =
        (do
          let n ← asInt (.int κ (len : Int))
          if n < 0 then runtimePanic (.error "unsafe.String: len out of range")
          if n > IntKind.i64.max then unsupported (.unsafePointer "String: a length above the largest int")
          if n = 0 then pure (.string .empty)
          else if ← variablesAt ⟨te.b, te.o + off * te.sz, none⟩ (← elemOf pt) n.toNat then do
            let s ← loadBytes ⟨te.b, te.o + off * te.sz, none⟩ .empty n.toNat
            freeze ⟨te.b, te.o + off * te.sz, none⟩ n.toNat
            pure (.string s)
          else unsupported (.unsafePointer "String: not so many bytes at ptr")) := rfl
    rw [hdef]
    have hneg : ¬ (len : Int) < 0 := by omega
    have h63' : ¬ (9223372036854775807 : Int) < (len : Int) := by omega
    have hl0 : len ≠ 0 := by omega
    simp [asInt, asIntOf, hmax, h63', hneg, hl0, variablesAt, hsh, elemOf, run_underlying hdp, hlies, hlb]
  · rename_i e κ k hty
    intro hc
    simp at hc
    subst hc
    cases hu; cases hn
    refine ⟨.string .empty, .str _ _ rfl, .inl ?_⟩
    rw [hs]
    have hdef : Builtin.unsafeString_ #[pt, it] ty #[.pointer none, .int κ 0] =
        (do
          let n ← asInt (.int κ 0)
          if n < 0 then runtimePanic (.error "unsafe.String: len out of range")
          if n > IntKind.i64.max then unsupported (.unsafePointer "String: a length above the largest int")
          if n = 0 then pure (.string .empty)
          else runtimePanic (.error "unsafe.String: ptr is nil and len is not zero")) := rfl
    rw [hdef]
    simp [asInt, asIntOf, hmax]

theorem run_nil_eq {P : Program} {w : World} {t e : TypeId} {p : Option Addr} {n c : Nat} (ht : P.underlying t = some (.slice e)) :
    (binOp .eql t (.slice p n c) (.slice none 0 0)).run P w = .ok (.bool p.isNone) w ∧ (binOp .neq t (.slice p n c) (.slice none 0 0)).run P w = .ok (.bool (!p.isNone)) w := by
  have h : ∀ d : Nat, (Op.equalIn (d + 1) t (.slice p n c) (.slice none 0 0)).run P w = .ok p.isNone w := fun d => by
    cases p <;> simp [Op.equalIn, run_underlying ht]
  constructor <;> (simp only [binOp]; simp [Op.equal, Op.maxDepth, h 9999])

theorem cmp_ok {P : Program} {T : Tab} (hT : TOk P T) {w : World} {ρ I L} {op : BinOp} {t : Nat} {x y : Operand} {u v : V} {a b : Value} (hu : Rel ρ I u a) (hv : Rel ρ I v b) (s : Sem Next)
    (hs : s.run P w = ((do eqGuard op t x y a b; binOp op t a b : Sem Value).run P w).andThen fun v w' => .ok (.value v) w') {pr : PR} (h : cmpV T op t u v = some pr) : pr.Ok P ρ I L w s := by
  have sl : ∀ (n : Nat) (e : TypeId), P.underlying t = some (.slice e) → v = .nilSl → (∃ p l c, a = .slice p l c ∧ (n ≠ 0 → p ≠ none)) →
      (op = .eql → (PR.all (fun i => i = 0 ∨ (i = 1 ∧ n = 0)) (fun i => .val (.bool (natEq i 1)))).Ok P ρ I L w s) ∧ (op = .neq → (PR.all (fun i => i = 0 ∨ (i = 1 ∧ n = 0)) (fun i => .val (.bool (!natEq i 1)))).Ok P ρ I L w s) := by
    intro n e ht hvn ha
    subst hvn
    cases hv
    obtain ⟨p, l, c, rfl, hp⟩ := ha
    have hg : (eqGuard op t x y (.slice p l c) (.slice none 0 0)).run P w = .ok () w := run_eqGuard_ne (fun _ _ h => by cases h.1) (fun h => by cases h.1)
    obtain ⟨r1, r2⟩ := run_nil_eq (P := P) (w := w) (p := p) (n := l) (c := c) ht
    constructor
    · rintro rfl
      refine ⟨if p.isNone then 1 else 0, ?_, .bool p.isNone, ?_, .inl ?_⟩
      · cases p with
        | none => right; exact ⟨rfl, by by_cases h0 : n = 0; exact h0; exact absurd rfl (hp h0)⟩
        | some => left; rfl
      · cases p <;> exact .bool _
      · rw [hs]; simp only [Sem.run_bind, hg, Result.andThen_ok, r1]
    · rintro rfl
      refine ⟨if p.isNone then 1 else 0, ?_, .bool (!p.isNone), ?_, .inl ?_⟩
      · cases p with
        | none => right; exact ⟨rfl, by by_cases h0 : n = 0; exact h0; exact absurd rfl (hp h0)⟩
        | some => left; rfl
      · cases p <;> exact .bool _
      · rw [hs]; simp only [Sem.run_bind, hg, Result.andThen_ok, r2]
  have ty : ∀ e, (T t).ty = .slice e → P.underlying t = some (.slice e) := by
    intro e hty
    obtain ⟨d, hd, hdo⟩ := under hT (t := t) (by rw [hty]; rfl)
    rw [hty] at hdo
    cases d <;> simp [DescOk] at hdo
    subst hdo; exact hd
  have ro : ∀ sz n f, Rel ρ I (.ro sz n f) a → ∃ p l c, a = .slice p l c ∧ (n ≠ 0 → p ≠ none) := by
    intro sz n f h
    cases h with
    | roNil => exact ⟨_, _, _, rfl, fun h => absurd rfl h⟩
    | ro => exact ⟨_, _, _, rfl, fun _ h => by cases h⟩
  have own : ∀ t z o n c, Rel ρ I (.sl t z o n c) a → ∃ p l c, a = .slice p l c ∧ (n ≠ 0 → p ≠ none) := by
    intro t z o n c h
    cases h with
    | slNil => exact ⟨_, _, _, rfl, fun h => absurd rfl h⟩
    | sl => exact ⟨_, _, _, rfl, fun _ h => by cases h⟩
  unfold cmpV at h
  split at h
  · rename_i e hty
    split at h
    · cases h; exact (sl _ e (ty e hty) rfl (ro _ _ _ hu)).1 rfl
    · cases h; exact (sl _ e (ty e hty) rfl (own _ _ _ _ _ hu)).1 rfl
    · cases h
  · rename_i e hty
    split at h
    · cases h; exact (sl _ e (ty e hty) rfl (ro _ _ _ hu)).2 rfl
    · cases h; exact (sl _ e (ty e hty) rfl (own _ _ _ _ _ hu)).2 rfl
    · cases h
  · rename_i e hty
    split at h
    · rename_i b i s0 b' i' s' hke
      split at h
      · rename_i h1 h2 h3
        cases h
        have := natEq_eq h1; subst this
        have := natEq_eq h2; subst this
        have := natEq_eq h3; subst this
        obtain ⟨d, hd, hdo⟩ := under hT (t := t) (by rw [hty]; rfl)
        rw [hty] at hdo
        cases d <;> simp [DescOk] at hdo
        subst hdo
        obtain ⟨ie, de, g1, _⟩ := (hT.ok hke).ex
        cases hu with | ptr _ _ _ te hρ hi =>
        cases hv with | ptr _ _ _ te' hρ' hi' =>
        rw [hρ] at hρ'; cases hρ'
        have hg : ∀ z : Addr, (eqGuard .neq t x y (.pointer (some z)) (.pointer (some z))).run P w = .ok () w := fun z => run_eqGuard_ne (fun _ _ h => by cases h.1) (fun h => by cases h.1)
        refine ⟨.bool false, .bool _, .inl ?_⟩
        rw [hs]
        simp only [Sem.run_bind, hg, Result.andThen_ok, Lib.run_neq_ptr_same w _ hd g1]
      · cases h
    · cases h
  · cases h

end Go.Vx
