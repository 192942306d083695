/- Proved here: of RR6, that what the Go functions of this part compute is as their contracts say (texts JbX, JbY), for every input; no condition beyond those that each theorem states. -/
import Derived.Test.YtcnlhehogkaapaaGreatRR4
import Derived.IntWalk
set_option linter.all false
section
/- What simp needs to know. -/
namespace Jb
open Go

@[simp] theorem brW_true (T E : Prop) : brW true T E = T := rfl
@[simp] theorem brW_false (T E : Prop) : brW false T E = E := rfl
theorem brW_iff (b : Bool) (T E : Prop) : brW b T E ↔ ((b = true → T) ∧ (b = false → E)) := by cases b <;> simp
@[simp] theorem seqK_normal (y : Fr → Heap → Prop) (Q : Ex → Fr → Heap → Prop) (f : Fr) (h : Heap) : seqK y Q .normal f h = y f h := rfl
@[simp] theorem seqK_exit (y : Fr → Heap → Prop) (Q : Ex → Fr → Heap → Prop) (i : Nat) (f : Fr) (h : Heap) : seqK y Q (.exit i) f h = Q (.exit i) f h := rfl
@[simp] theorem seqK_ret (y : Fr → Heap → Prop) (Q : Ex → Fr → Heap → Prop) (f : Fr) (h : Heap) : seqK y Q .ret f h = Q .ret f h := rfl
@[simp] theorem blockK_normal (id : Nat) (Q : Ex → Fr → Heap → Prop) (f : Fr) (h : Heap) : blockK id Q .normal f h = Q .normal f h := rfl
@[simp] theorem blockK_ret (id : Nat) (Q : Ex → Fr → Heap → Prop) (f : Fr) (h : Heap) : blockK id Q .ret f h = Q .ret f h := rfl
@[simp] theorem blockK_exit (id i : Nat) (Q : Ex → Fr → Heap → Prop) (f : Fr) (h : Heap) : blockK id Q (.exit i) f h = if i = id then Q .normal f h else Q (.exit i) f h := by
  simp only [blockK]
  by_cases e : i = id
  · subst e; simp
  · have : Nat.beq i id = false := by cases hb : Nat.beq i id with | false => rfl | true => exact (e (Nat.eq_of_beq_eq_true hb)).elim
    rw [this, if_neg e]
@[simp] theorem num_int (k : IntKind) (n : Int) : V.num (.int k n) = n := rfl
@[simp] theorem flag_bool (b : Bool) : V.flag (.bool b) = b := rfl
@[simp] theorem text_str (s : ByteArray) : V.text (.str s) = s := rfl
@[simp] theorem els_sl (es : Nat) (l : List (List V)) (g : G) : V.els (.sl es l g) = l := rfl
@[simp] theorem right_sl (es : Nat) (l : List (List V)) (g : G) : V.right (.sl es l g) = g := rfl
@[simp] theorem cells_agg (cs : List V) : V.cells (.agg cs) = cs := rfl
@[simp] theorem vs_tup (cs : List V) : V.vs (.tup cs) = cs := rfl
@[simp] theorem isBool_bool (b : Bool) : V.isBool (.bool b) = true := rfl
@[simp] theorem isStr_str (b : ByteArray) : V.isStr (.str b) = true := rfl
@[simp] theorem isInt_i64 (n : Int) : V.isInt .i64 (.int .i64 n) = true := rfl
@[simp] theorem isInt_i32 (n : Int) : V.isInt .i32 (.int .i32 n) = true := rfl
@[simp] theorem isInt_i8 (n : Int) : V.isInt .i8 (.int .i8 n) = true := rfl
@[simp] theorem isInt_i16 (n : Int) : V.isInt .i16 (.int .i16 n) = true := rfl
@[simp] theorem isInt_u64 (n : Int) : V.isInt .u64 (.int .u64 n) = true := rfl
@[simp] theorem isInt_u32 (n : Int) : V.isInt .u32 (.int .u32 n) = true := rfl
@[simp] theorem isInt_u16 (n : Int) : V.isInt .u16 (.int .u16 n) = true := rfl
@[simp] theorem isInt_u8 (n : Int) : V.isInt .u8 (.int .u8 n) = true := rfl
@[simp] theorem isSl_sl (es : Nat) (l : List (List V)) (g : G) : V.isSl es (.sl es l g) = true := by simp [V.isSl]
@[simp] theorem isAgg_agg (n : Nat) (cs : List V) : V.isAgg n (.agg cs) = decide (cs.length = n) := by
  simp only [V.isAgg]
  by_cases e : cs.length = n
  · rw [e]; simp
  · have : Nat.beq cs.length n = false := by cases hb : Nat.beq cs.length n with | false => rfl | true => exact (e (Nat.eq_of_beq_eq_true hb)).elim
    simp [this, e]
@[simp] theorem isTup_tup (n : Nat) (cs : List V) : V.isTup n (.tup cs) = decide (cs.length = n) := by
  simp only [V.isTup]
  by_cases e : cs.length = n
  · rw [e]; simp
  · have : Nat.beq cs.length n = false := by cases hb : Nat.beq cs.length n with | false => rfl | true => exact (e (Nat.eq_of_beq_eq_true hb)).elim
    simp [this, e]
@[simp] theorem ptrK_ptr (l off : Nat) (A : Nat → Nat → Prop) (B : Prop) : ptrK (.ptr l off) A B = A l off := rfl
@[simp] theorem ptrK_nil (A : Nat → Nat → Prop) (B : Prop) : ptrK .nilp A B = B := rfl
@[simp] theorem appG_own (es n m s : Nat) (h : Heap) (K : G → Heap → Prop) : appG es n m (.own s) h K = (h s = some (.grow es n) ∧ K (.own s) (h.upd s (.grow es (n + m)))) := rfl
@[simp] theorem appG_full (es n m : Nat) (h : Heap) (K : G → Heap → Prop) : appG es n (m + 1) .full h K = (∀ s, h s = none → K (.own s) (h.upd s (.grow es (n + (m + 1))))) := rfl
@[simp] theorem upd_same (h : Heap) (l : Nat) (o : Ob) : h.upd l o l = some o := by simp [Heap.upd]
theorem upd_ne (h : Heap) {l x : Nat} (o : Ob) (hne : x ≠ l) : h.upd l o x = h x := by simp [Heap.upd, hne]
@[simp] theorem upd_upd (h : Heap) (l : Nat) (o o' : Ob) : (h.upd l o).upd l o' = h.upd l o' := by
  funext x; simp only [Heap.upd]; split <;> rfl
@[simp] theorem cellsAt_same (h : Heap) (l : Nat) (cs : List V) : cellsAt (h.upd l (.cells cs)) l = cs := by simp [cellsAt]
theorem cellsAt_ne (h : Heap) {l x : Nat} (o : Ob) (hne : x ≠ l) : cellsAt (h.upd l o) x = cellsAt h x := by simp [cellsAt, upd_ne h o hne]

end Jb
end

section
/- Lists of numbers as cells; ways to step. -/
namespace Jb
open Go

@[simp] theorem wpA_seq {P : Program} {g : Cfg} {a b : Code} {fr : Fr} {h : Heap} {Q : Ex → Fr → Heap → Prop} : wpA P g (.seq a b) fr h Q = wpA P g a fr h (seqK (fun fr' h' => wpA P g b fr' h' Q) Q) := rfl

/-- A row of numbers, as cells; as a slice's elements. -/
def ints (l : List Int) : List V := l.map (.int .i64)
def col (l : List Int) : List (List V) := l.map fun n => [.int .i64 n]

@[simp] theorem ints_len (l : List Int) : (ints l).length = l.length := by simp [ints]
@[simp] theorem col_len (l : List Int) : (col l).length = l.length := by simp [col]
@[simp] theorem ints_nil : ints [] = [] := rfl
@[simp] theorem col_nil : col [] = [] := rfl
@[simp] theorem ints_cons (a : Int) (l : List Int) : ints (a :: l) = .int .i64 a :: ints l := rfl
@[simp] theorem col_cons (a : Int) (l : List Int) : col (a :: l) = [.int .i64 a] :: col l := rfl
theorem ints_append (l m : List Int) : ints (l ++ m) = ints l ++ ints m := by simp [ints]
theorem col_append (l m : List Int) : col (l ++ m) = col l ++ col m := by simp [col]

/-- A number in a row; a value in a row; an element's cells. -/
def gi (l : List Int) (i : Nat) : Int := l.getD i 0
def gv (cs : List V) (i : Nat) : V := cs.getD i .undef
def ge (l : List (List V)) (i : Nat) : List V := l.getD i []
@[simp] theorem gv_zero (a : V) (l : List V) : gv (a :: l) 0 = a := rfl
@[simp] theorem gv_succ (a : V) (l : List V) (n : Nat) : gv (a :: l) (n + 1) = gv l n := rfl
@[simp] theorem ge_zero (a : List V) (l : List (List V)) : ge (a :: l) 0 = a := rfl
@[simp] theorem ge_succ (a : List V) (l : List (List V)) (n : Nat) : ge (a :: l) (n + 1) = ge l n := rfl
@[simp] theorem gi_zero (a : Int) (l : List Int) : gi (a :: l) 0 = a := rfl
@[simp] theorem gi_succ (a : Int) (l : List Int) (n : Nat) : gi (a :: l) (n + 1) = gi l n := rfl
theorem gi_lt (l : List Int) {i : Nat} (hi : i < l.length) : gi l i = l[i] := by simp [gi, List.getD, hi]
theorem gi_none (l : List Int) {i : Nat} (hi : l.length ≤ i) : gi l i = 0 := by simp [gi, List.getD, List.getElem?_eq_none hi]
theorem gi_mem (l : List Int) {i : Nat} (hi : i < l.length) : gi l i ∈ l := by rw [gi_lt l hi]; exact List.getElem_mem hi
theorem gi_set (l : List Int) (i j : Nat) (v : Int) : gi (l.set i v) j = if i = j ∧ i < l.length then v else gi l j := by
  simp only [gi, List.getD, List.getElem?_set]
  by_cases e : i = j
  · subst e
    by_cases h : i < l.length
    · simp [h]
    · simp [h, List.getElem?_eq_none (Nat.le_of_not_lt h)]
  · simp [e]
theorem gi_take (l : List Int) {i n : Nat} (hi : i < n) : gi (l.take n) i = gi l i := by simp only [gi, List.getD, List.getElem?_take, hi, if_true]
theorem gi_drop (l : List Int) (i n : Nat) : gi (l.drop n) i = gi l (n + i) := by simp only [gi, List.getD, List.getElem?_drop]
theorem gi_ext {l m : List Int} (hl : l.length = m.length) (h : ∀ i, i < l.length → gi l i = gi m i) : l = m := by
  apply List.ext_getElem hl
  intro i h1 h2
  have := h i h1
  rwa [gi_lt l h1, gi_lt m h2] at this
theorem take_next (l : List Int) {i : Nat} (hi : i < l.length) : l.take (i + 1) = l.take i ++ [gi l i] := by
  rw [List.take_add_one, gi_lt l hi]; simp [hi]

theorem ints_get (l : List Int) {i : Nat} (hi : i < l.length) : gv (ints l) i = .int .i64 (gi l i) := by
  simp [gv, gi, ints, List.getD, List.getElem?_map, List.getElem?_eq_getElem hi]
theorem col_get (l : List Int) {i : Nat} (hi : i < l.length) : ge (col l) i = [.int .i64 (gi l i)] := by
  simp [ge, gi, col, List.getD, List.getElem?_map, List.getElem?_eq_getElem hi]
@[simp] theorem ints_num (l : List Int) (i : Nat) : V.num (gv (ints l) i) = gi l i := by
  by_cases hi : i < l.length
  · rw [ints_get l hi]; rfl
  · simp [gv, gi, ints, List.getD, List.getElem?_map, List.getElem?_eq_none (Nat.le_of_not_lt hi), V.num]
@[simp] theorem ints_isInt (l : List Int) (i : Nat) : V.isInt .i64 (gv (ints l) i) = decide (i < l.length) := by
  by_cases hi : i < l.length
  · rw [ints_get l hi]; simp [hi]
  · simp [gv, ints, List.getD, List.getElem?_map, List.getElem?_eq_none (Nat.le_of_not_lt hi), V.isInt, hi]
@[simp] theorem ints_at (l : List Int) (i : Nat) (h : i < (ints l).length) : (ints l)[i] = .int .i64 (l[i]'(by simpa using h)) := by simp [ints]
theorem beq_dec (a b : Int) : (a == b) = decide (a = b) := rfl
theorem bne_dec (a b : Int) : (a != b) = !decide (a = b) := rfl
theorem ints_take (l : List Int) (n : Nat) : (ints l).take n = ints (l.take n) := by simp [ints]
theorem ints_drop (l : List Int) (n : Nat) : (ints l).drop n = ints (l.drop n) := by simp [ints]
@[simp] theorem ints_wr1 (l : List Int) (off : Nat) (n : Int) (h : off < l.length) : wrCells (ints l) off [.int .i64 n] = ints (l.set off n) := by
  simp only [wrCells, ints_take, ints_drop, List.set_eq_take_append_cons_drop, h, if_true, ints_append, ints_cons, List.length_singleton, List.append_assoc, List.singleton_append]
theorem ints_wr (l m : List Int) (off : Nat) : wrCells (ints l) off (ints m) = ints (l.take off ++ m ++ l.drop (off + m.length)) := by
  simp only [wrCells, ints_take, ints_drop, ints_append, ints_len]
theorem ints_inj {l m : List Int} : ints l = ints m ↔ l = m := by
  refine ⟨fun h => ?_, fun h => by rw [h]⟩
  have := congrArg (List.map V.num) h
  simpa [ints, List.map_map, Function.comp_def] using this

/-- The largest number that money may be; numbers that fit. -/
def Mx : Int := 4611686018427387904
def fine1 (n : Int) : Bool := decide (0 ≤ n ∧ n ≤ Mx)
theorem fine1_iff (n : Int) : fine1 n = true ↔ 0 ≤ n ∧ n ≤ 4611686018427387904 := by unfold fine1 Mx; simp
theorem fine1_no (n : Int) : fine1 n = false ↔ n < 0 ∨ 4611686018427387904 < n := by unfold fine1 Mx; simp; omega
def I64 (n : Int) : Prop := -9223372036854775808 ≤ n ∧ n ≤ 9223372036854775807

theorem AnyW.of {P : Program} {f : FuncId} (he : enters P f = true) {args : List V} {h : Heap} {K0 K : V → Heap → Prop} (c : CallW P f args h K0) (m : ∀ r h', K0 r h' → K r h') : AnyW P f args h K :=
  AnyW.call he (c.mono m)
theorem AnyW.eq {P : Program} {f : FuncId} (he : enters P f = true) {args : List V} {h : Heap} {v : V} {K : V → Heap → Prop} (c : CallW P f args h fun r h' => r = v ∧ h' = h) (m : K v h) : AnyW P f args h K :=
  AnyW.call he (c.mono fun r h' e => by obtain ⟨rfl, rfl⟩ := e; exact m)
theorem brW_i {b : Bool} {T E : Prop} (t : b = true → T) (e : b = false → E) : brW b T E := by cases b with | true => exact t rfl | false => exact e rfl
theorem let_i {α : Type} {v : α} {p : α → Prop} (h : ∀ x, x = v → p x) : (let x := v; p x) := h v rfl
theorem ofNat_int (n : Nat) : (OfNat.ofNat n : Int) = (n : Int) := rfl
end Jb
namespace Jb
open Go
theorem Heap.sub_rfl (h : Heap) : h.Sub h := fun _ _ e => e
theorem Heap.Sub.trans {a b c : Heap} (x : a.Sub b) (y : b.Sub c) : a.Sub c := fun l o e => y l o (x l o e)
theorem Heap.sub_new {h h' : Heap} {l : Nat} {o : Ob} (e : h l = none) (s : h.Sub h') : h.Sub (h'.upd l o) := fun x o' hx => by
  have : x ≠ l := by rintro rfl; rw [e] at hx; cases hx
  rw [upd_ne h' o this]; exact s x o' hx
@[simp] theorem zero_addN (n : Nat) : 0 + n = n := Nat.zero_add n
theorem shV_any : True := trivial
end Jb
namespace Jb
open Go
/-- A slice that may be appended to. -/
def Can (g : G) (es n : Nat) (h : Heap) : Prop := g = .full ∨ ∃ s, g = .own s ∧ h s = some (.grow es n)
/-- Two of them, apart. -/
def Apart (g g' : G) : Prop := ∀ s, g = .own s → g' ≠ .own s

theorem Can.full {es n : Nat} {h : Heap} : Can .full es n h := .inl rfl
theorem apart_full {g : G} : Apart .full g := fun s e => by cases e
theorem appG_one {es n m : Nat} {g : G} {h : Heap} {K : G → Heap → Prop} (c : Can g es n h)
    (k : ∀ s h', h' s = some (.grow es (n + (m + 1))) → (∀ l o, h l = some o → g ≠ .own l → h' l = some o ∧ l ≠ s) → K (.own s) h') : appG es n (m + 1) g h K := by
  rcases c with rfl | ⟨s, rfl, hs⟩
  · intro s hs
    refine k s _ (by simp) (fun l o hl _ => ?_)
    have : l ≠ s := by rintro rfl; rw [hs] at hl; cases hl
    exact ⟨by rw [upd_ne h _ this]; exact hl, this⟩
  · refine ⟨hs, k s _ (by simp) (fun l o hl hg => ?_)⟩
    have : l ≠ s := by rintro rfl; exact hg rfl
    exact ⟨by rw [upd_ne h _ this]; exact hl, this⟩

/-- A state of a loop with a heap of its own. -/
theorem wpA_loopH {P : Program} {cf : Cfg} {c : Code} {fr : Fr} {h : Heap} {Q : Ex → Fr → Heap → Prop} {σ : Type} (mk : σ → Fr) (m : σ → Nat) (Inv : σ → Heap → Prop) (s : σ) (e1 : fr = mk s) (hI : Inv s h)
    (round : ∀ s h, Inv s h → wpA P cf c (mk s) h (seqK (fun f h' => ∃ s', f = mk s' ∧ Inv s' h' ∧ m s' < m s) Q)) : wpA P cf (.loop c) fr h Q :=
  wpA_loop (σ := σ × Heap) (fun x => mk x.1) (fun x => x.2) (fun x => m x.1) (fun x => Inv x.1 x.2) (s, h) e1 rfl hI fun x hx =>
    wpA_mono c (seqK_mono (fun f h' ⟨s', e, i, l⟩ => ⟨(s', h'), e, rfl, i, l⟩) (fun _ _ _ k => k)) (round x.1 x.2 hx)
end Jb
end
