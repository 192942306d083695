/- Proved here: of JS11, that what the Go functions of this part compute is as their contracts say (texts JbZ, JbZb), for every input; no condition beyond those that each theorem states. -/
import Derived.Test.YtoimhhmlkbdodaaGreatJS3
import Derived.WalkKit
import Derived.ProofKit
import Derived.OpenShut
import Derived.ChangeArms
import Derived.WideKeyArgs
import Derived.RowKit3
import Derived.Handed
set_option linter.all false
section
/- From what is claimed of a Go function to what is asked of a call. -/
namespace Jb
open Go Go.ChangeShapes

/-- Types whose cells are all whole numbers of 64 bits, with a sign. -/
def allInt (P : Program) : Nat → TypeId → Bool
  | 0, _ => false
  | n + 1, t => match P.underlying t with
    | some (.int .i64) => true
    | some (.struct fs) => (List.range (P.cellsOf t)).all fun i => fs.toList.any fun f => decide (f.offset ≤ i) && decide (i < f.offset + P.cellsOf f.type) && allInt P n f.type
    | some (.array k e) => decide (k * P.cellsOf e = P.cellsOf t) && decide (0 < P.cellsOf e) && allInt P n e
    | _ => false

theorem trod_array {H : Type} {enc : TypeId × Value → H} {P : Program} {w : World} {base : Nat} {spare : Nat → Bool} {held : Bool} {fuel : Nat} {t e : TypeId} {k : Nat} {cs : List Value} {x : DataW H × List MemPlace}
    (ht : P.underlying t = some (.array k e)) (h : DataW.trod enc P w base spare held fuel t cs = some x) :
    ∃ (xs : List (DataW H × List MemPlace)) (n : Nat), fuel = n + 1 ∧ cs.length = P.cellsOf t ∧ xs.length = k ∧
      ∀ i, i < k → DataW.trod enc P w base spare held n e ((cs.drop (i * P.cellsOf e)).take (P.cellsOf e)) = xs[i]? := by
  cases fuel with
  | zero => simp [DataW.trod] at h
  | succ n =>
    unfold DataW.trod at h
    rw [ht] at h
    split at h <;> simp_all
    obtain ⟨hl, xs, hp, hd⟩ := h
    exact ⟨xs, by simpa using mapM_some_length hp, fun i hi => mapM_some_get hp i i (by simp [hi])⟩

theorem trod_allInt {H : Type} {enc : TypeId × Value → H} {P : Program} {w : World} {base : Nat} {spare : Nat → Bool} {held : Bool} : ∀ (n : Nat) {fuel : Nat} {t : TypeId} {cs : List Value} {x : DataW H × List MemPlace},
    allInt P n t = true → DataW.trod enc P w base spare held fuel t cs = some x → ∀ c ∈ cs, ∃ z, c = .int .i64 z ∧ I64 z
  | 0, _, _, _, _, a, _ => by cases a
  | n + 1, fuel, t, cs, x, a, h => by
    unfold allInt at a
    split at a
    · rename_i ht
      obtain ⟨z, rfl, _, hw⟩ := DataW.trod_int ht h
      intro c hc
      simp only [List.mem_singleton] at hc
      refine ⟨z, hc, ?_⟩
      simp only [Lit.wf, Bool.and_eq_true, decide_eq_true_eq] at hw
      exact hw
    · rename_i fs ht
      obtain ⟨xs, m, rfl, _, hl, hx, hf⟩ := DataW.trod_struct ht h
      intro c hc
      obtain ⟨i, hi, rfl⟩ := List.mem_iff_getElem.1 hc
      have := List.all_eq_true.1 a i (by simp; omega)
      obtain ⟨f, hfm, hf'⟩ := List.any_eq_true.1 this
      simp only [Bool.and_eq_true, decide_eq_true_eq] at hf'
      obtain ⟨j, hj, hj'⟩ := List.mem_iff_getElem.1 hfm
      have hj2 : j < fs.size := by simpa using hj
      have hfj : fs[j]? = some f := by rw [← Array.getElem?_toList, List.getElem?_eq_getElem hj, hj']
      have := hf j f hfj
      rw [List.getElem?_eq_getElem (by omega)] at this
      refine trod_allInt n hf'.2 this _ ?_
      refine List.mem_iff_getElem.2 ⟨i - f.offset, by simp; omega, ?_⟩
      simp only [List.getElem_take, List.getElem_drop]
      congr 1; omega
    · rename_i k e ht
      simp only [Bool.and_eq_true, decide_eq_true_eq] at a
      obtain ⟨xs, m, rfl, hl, hx, hf⟩ := trod_array ht h
      intro c hc
      obtain ⟨i, hi, rfl⟩ := List.mem_iff_getElem.1 hc
      have hi2 : i / P.cellsOf e < k := by rw [Nat.div_lt_iff_lt_mul a.1.2]; omega
      have := hf _ hi2
      rw [List.getElem?_eq_getElem (by omega)] at this
      have d := Nat.div_add_mod i (P.cellsOf e)
      have l := Nat.mod_lt i a.1.2
      have hmul : i / P.cellsOf e * P.cellsOf e = P.cellsOf e * (i / P.cellsOf e) := Nat.mul_comm _ _
      refine trod_allInt n a.2 this _ ?_
      refine List.mem_iff_getElem.2 ⟨i % P.cellsOf e, by simp; omega, ?_⟩
      simp only [List.getElem_take, List.getElem_drop]
      congr 1; omega
    · cases a

/-- Values that are whole numbers, as a list of them. -/
theorem ints_of {xs : List Value} (h : ∀ c ∈ xs, ∃ z, c = .int .i64 z ∧ I64 z) : ∃ l : List Int, xs = l.map (.int .i64) ∧ (∀ z ∈ l, I64 z) := by
  induction xs with
  | nil => exact ⟨[], rfl, by simp⟩
  | cons a xs ih =>
    obtain ⟨z, rfl, hz⟩ := h a (by simp)
    obtain ⟨l, rfl, hl⟩ := ih (fun c hc => h c (by simp [hc]))
    exact ⟨z :: l, rfl, by simpa using ⟨hz, hl⟩⟩

theorem rel_ints {S : Sim} {w : World} (l : List Int) : RelL S w (ints l) (l.map (.int .i64)) := by
  induction l with
  | nil => exact RelL.nil
  | cons a l ih => exact RelL.cons (Rel.int _ _) ih
theorem rel_agg_ints {S : Sim} {w : World} (l : List Int) : Rel S w (.agg (ints l)) (.agg (l.map (.int .i64)).toArray) :=
  Rel.agg _ _ (rel_ints (S := S) (w := w) l).1 (by simp [Value.oneCell']) (rel_ints l).2

/-- Nothing is known of any block. -/
def S0 : Sim := ⟨fun _ => none, fun _ => none, fun _ => (0, 0, 0)⟩
def h0 : Heap := fun _ => none
theorem hr0 (w : World) : HR S0 w h0 := ⟨fun l o h => (by cases h), fun l _ => ⟨rfl, rfl⟩⟩

/-- A slice of rows of whole numbers. -/
theorem rel_rows {H : Type} {enc : TypeId × Value → H} {P : Program} {w : World} {spare : Nat → Bool} {held : Bool} {r : Reach} {base : Nat} {t e : TypeId} {v : Value} {d : DataW H} {ps : List MemPlace} (ht : P.underlying t = some (.slice e)) (n : Nat) (he : allInt P n e = true) (hpos : 0 < P.cellsOf e)
    (hval : Value.okWide P w r base t v) (h : DataW.Trod enc P w 0 spare held t v d ps) : ∃ L : List (List Int), L.length ≤ maxLen ∧ (∀ l ∈ L, l.length = P.cellsOf e ∧ ∀ z ∈ l, I64 z) ∧ Rel S0 w (.sl (P.cellsOf e) (L.map ints) .no) v := by
  have hv : (v = .slice none 0 0) ∨ ∃ b o len cap, v = .slice (some ⟨b, o, none⟩) len cap := by
    unfold Value.okWide at hval
    rw [ht] at hval
    simp only [Cell.okWide, ht] at hval
    unfold Cell.ok at hval
    rw [ht] at hval
    cases v with
    | slice a len cap =>
      cases a with
      | none => cases len <;> cases cap <;> simp_all
      | some a =>
        obtain ⟨b, o, sp⟩ := a
        have : sp = none := hval.2.2.2.1
        subst this
        exact .inr ⟨b, o, len, cap, rfl⟩
    | _ => simp at hval
  obtain ⟨fuel, h⟩ := h
  rcases hv with rfl | ⟨b, o, len, cap, rfl⟩
  · exact ⟨[], by simp, by simp, Rel.slnil _ _ (by simp)⟩
  · have hc : (Value.slice (some ⟨b, o, none⟩) len cap).cells.toList = [.slice (some ⟨b, o, none⟩) len cap] := rfl
    rw [hc] at h
    rcases DataW.trod_slice ht h with ⟨e1, _⟩ | ⟨a, len', cap', elems, rest, m, rfl, e1, _, _, hle, hcap, hel, hget, _, _⟩
    · simp at e1
    simp only [List.cons.injEq, Value.slice.injEq, Option.some.injEq, and_true] at e1
    obtain ⟨rfl, rfl, rfl⟩ := e1
    have each : ∀ i, i < len → ∃ l : List Int, w.cells? 0 (Addr.add ⟨b, o, none⟩ (i * P.cellsOf e)) (P.cellsOf e) = some (l.map (.int .i64)) ∧ ∀ z ∈ l, I64 z := by
      intro i hi
      have := hget i hi
      rw [List.getElem?_eq_getElem (by omega)] at this
      obtain ⟨cs, h1, h2⟩ := Option.bind_eq_some_iff.1 this
      obtain ⟨l, rfl, hl⟩ := ints_of (trod_allInt n he h2)
      exact ⟨l, h1, hl⟩
    have : ∃ f : Nat → List Int, ∀ i, i < len → w.cells? 0 (Addr.add ⟨b, o, none⟩ (i * P.cellsOf e)) (P.cellsOf e) = some ((f i).map (.int .i64)) ∧ ∀ z ∈ f i, I64 z := by
      refine ⟨fun i => if h : i < len then (each i h).choose else [], fun i hi => ?_⟩
      simp only [hi, dite_true]
      exact (each i hi).choose_spec
    obtain ⟨f, hf⟩ := this
    have flen : ∀ i, i < len → (f i).length = P.cellsOf e := fun i hi => by have := (World.cells?_some (hf i hi).1).2.1; simpa using this
    have geti : ∀ (i : Nat) (x : List V), (List.map ints ((List.range len).map f))[i]? = some x → i < len ∧ x = ints (f i) := by
      intro i x hx
      simp only [List.getElem?_map, Option.map_eq_some_iff, List.getElem?_range] at hx
      obtain ⟨l, ⟨a, ha, rfl⟩, rfl⟩ := hx
      obtain ⟨hi, rfl⟩ := List.getElem?_eq_some_iff.1 ha
      simp only [List.length_range] at hi
      simp [hi]
    refine ⟨(List.range len).map f, by simp; omega, fun l hl => ?_, ?_⟩
    · obtain ⟨i, hi, rfl⟩ := List.mem_map.1 hl
      have hi : i < len := by simpa using hi
      exact ⟨flen i hi, (hf i hi).2⟩
    · have hk : ∀ (i : Nat) (x : List V), (List.map ints ((List.range len).map f))[i]? = some x → ∀ (j : Nat) (c : V), x[j]? = some c → c = .int .i64 (gi (f i) j) ∧ w.cell? ⟨b, o + i * P.cellsOf e + j, none⟩ = some (.int .i64 (gi (f i) j)) := by
        intro i x hx j c hc
        obtain ⟨hi, rfl⟩ := geti i x hx
        have hj : j < (f i).length := by
          have := (List.getElem?_eq_some_iff.1 hc).1
          simpa using this
        have e1 := (World.cells?_some (hf i hi).1).2.2 j (by rw [← flen i hi]; exact hj)
        have e2 : c = .int .i64 (gi (f i) j) := by
          have := ints_get (f i) hj
          unfold gv List.getD at this
          rw [hc] at this
          exact this
        refine ⟨e2, ?_⟩
        rw [show (⟨b, o + i * P.cellsOf e + j, none⟩ : Addr) = (Addr.add ⟨b, o, none⟩ (i * P.cellsOf e)).add j from by simp only [Addr.add]; split <;> split <;> simp_all <;> omega, e1, gi_lt _ hj]
        simp [hj]
      have := Rel.sl (S := S0) (w := w) (P.cellsOf e) (List.map ints ((List.range len).map f)) .no b o cap (fun i j => .int .i64 (gi (f i) j)) hpos (by simp; omega) trivial
        (fun i x hx => by obtain ⟨hi, rfl⟩ := geti i x hx; simp [flen i hi])
        (fun i x hx j c hc => ⟨trivial, (hk i x hx j c hc).2, rfl⟩)
        (fun i x hx j c hc => by rw [(hk i x hx j c hc).1]; exact Rel.int _ _)
      simpa using this

/-- A struct, an array, of whole numbers. -/
theorem rel_flat {H : Type} {enc : TypeId × Value → H} {P : Program} {w : World} {spare : Nat → Bool} {held : Bool} {r : Reach} {base b0 : Nat} {t : TypeId} {v : Value} {d : DataW H} {ps : List MemPlace} (ha : aggT P t = true) (n : Nat) (he : allInt P n t = true)
    (hval : Value.okWide P w r base t v) (h : DataW.Trod enc P w b0 spare held t v d ps) : ∃ l : List Int, l.length = P.cellsOf t ∧ (∀ z ∈ l, I64 z) ∧ v = .agg (l.map (.int .i64)).toArray := by
  obtain ⟨fuel, h⟩ := h
  have : ∃ cs, v = .agg cs ∧ cs.size = P.cellsOf t := by
    unfold Value.okWide at hval
    unfold aggT at ha
    split at hval
    · obtain ⟨cs, h1, h2, _⟩ := hval; exact ⟨cs, h1, h2⟩
    · obtain ⟨cs, h1, h2, _⟩ := hval; exact ⟨cs, h1, h2⟩
    · split at ha <;> simp_all
  obtain ⟨cs, rfl, hl⟩ := this
  obtain ⟨l, e, hz⟩ := ints_of (trod_allInt n he h)
  have e' : cs.toList = l.map (.int .i64) := e
  refine ⟨l, ?_, hz, ?_⟩
  · rw [← hl, ← Array.length_toList, e']; simp
  · rw [← e']

theorem kept_of {h h' : Heap} {S S' : Sim} {w w' : World} (L : Le (fun _ => False) h S w h' S' w') (hn : ∀ rb, S.own rb = none) (may : MemPlace → Prop) : w.keptBut w' may := by
  refine World.keptBut_mono (fun _ f => f.elim) (may := fun _ => False) ⟨L.os, L.output, fun i hi => ?_⟩
  rw [(L.un i hi (hn i)).1]
  exact (World.keptBut_refl w (fun _ => False)).2.2 i hi

theorem same_at {h h' : Heap} {S S' : Sim} {w w' : World} (L : Le (fun _ => False) h S w h' S' w') (hn : ∀ rb, S.own rb = none) (p : MemPlace) (hp : p.block < w.heap.size) : w.sameAt w' p := by
  have e := (L.un p.block hp (hn _)).1
  cases p with
  | cell b off => simp only [MemPlace.block] at e; simp only [World.sameAt, World.cell?, e]
  | map b => exact e

theorem args_again {H : Type} {enc : TypeId × Value → H} {P : Program} (hl : laidOutB P = true) {W W' : World} {sp : Nat → Bool} : ∀ {ts : List TypeId} {vs : List Value} {ds : List (DataW H)} {ps : List MemPlace}, (∀ t ∈ ts, P.readableRec t = true ∧ t < P.types.size) →
    DataW.TrodAll enc P W 0 (fun _ => true) true ts vs ds ps → (∀ p ∈ ps, W.sameAt W' p) → (∀ p ∈ ps, sp p.block = true) → DataW.TrodAll enc P W' 0 sp true ts vs ds ps
  | [], [], [], _, _, h, _, _ => h
  | t :: ts, v :: vs, d :: ds, ps, hts, ⟨p, q, h1, h2, e⟩, hs, hb => by
    subst e
    refine ⟨p, q, ?_, args_again hl (fun t ht => hts t (by simp [ht])) h2 (fun x hx => hs x (by simp [hx])) (fun x hx => hb x (by simp [hx])), rfl⟩
    exact Go.WideElems.Trod_stays hl (hts t (by simp)).1 (hts t (by simp)).2 h1 (fun x hx => hs x (by simp [hx])) (fun x hx => hb x (by simp [hx]))
  | [], _ :: _, _, _, _, h, _, _ => h.elim
  | [], [], _ :: _, _, _, h, _, _ => h.elim
  | _ :: _, [], _, _, _, h, _, _ => h.elim
  | _ :: _, _ :: _, [], _, _, h, _, _ => h.elim

/-- What is claimed of a law that answers true, and leaves all as it was. -/
theorem post_law {H : Type} {enc : TypeId × Value → H} {P : Program} {f : Func} {s : ChangeSpec} {apart fresh handsOn again : Bool} {W W' : World} {args : Array Value} {ds gs : List (DataW H)} {before : List MemPlace} {h h' : Heap} {S S' : Sim}
    (hW : DataW.Whole enc P f.params.toList s.vars apart W args.toList ds gs before) (hv : s.vars = []) (hs : (s.fn H (ds ++ gs)).results = [.lit (.bool true)] ∧ (s.fn H (ds ++ gs)).args = ds ∧ (s.fn H (ds ++ gs)).vars = [])
    {b : TypeId} (hr : f.resultTypes = #[b]) (hb : P.underlying b = some .bool) (hl : laidOutB P = true) (hts : ∀ t ∈ f.params.toList, P.readableRec t = true ∧ t < P.types.size)
    (L : Le (fun _ => False) h S W h' S' W') (hn : ∀ rb, S.own rb = none) : s.post enc P f apart fresh handsOn again W args (.bool true) W' := by
  have hlt := hW.lt
  have hsame : ∀ p ∈ before, W.sameAt W' p := fun p hp => same_at L hn p (hlt p hp)
  obtain ⟨s1, s2, s3⟩ := hs
  have hres : ∀ (b' : Nat) (sp : Nat → Bool) (hd : Bool), DataW.TrodAll enc P W' b' sp hd f.resultTypes.toList ((Value.bool true).resultList f.resultTypes.size) [.lit (.bool true)] [] := by
    intro b' sp hd
    rw [hr]
    exact trodAll_cons_mk (Go.RowKit.shut_bool hb true) trodAll_mk0
  have hok : ∀ (j : Nat) (t : TypeId) (r : Value), f.resultTypes[j]? = some t → ((Value.bool true).resultList f.resultTypes.size)[j]? = some r → Value.okWide P W' .any 0 t r :=
    Go.RowKit.ok_one hr rfl (Go.RowKit.okWide_bool_mk hb true)
  have hW0 := hW
  obtain ⟨p, q, hA, hV, rfl, hz, hnd⟩ := hW
  rw [hv] at hV
  obtain ⟨rfl, rfl⟩ := trodVars_none hV
  simp only [List.append_nil] at hsame hlt hz hnd hW0 s1 s2 s3
  have hargs : ∀ sp : Nat → Bool, (∀ x ∈ p, sp x.block = true) → DataW.TrodAll enc P W' 0 sp true f.params.toList args.toList ds p := fun sp hsp => args_again hl hts hA hsame hsp
  have hvars : ∀ sp : Nat → Bool, DataW.TrodVars enc P W' sp s.vars [] [] := fun sp => by rw [hv]; rfl
  refine ⟨ds, [], p, [], p, [], hW0, ?_, ?_, ?_, kept_of L hn _, fun _ => ⟨hok, .lit (.bool true) :: ds, [], p, ⟨[] ++ p, [], ?_, hvars _, by simp, ?_, ?_⟩, fun x hx _ => hx⟩⟩
  · rw [List.append_nil, s1]; exact hres _ _ _
  · rw [List.append_nil, s2]; exact hargs _ (fun x hx => by simpa using hlt x hx)
  · rw [List.append_nil, s3]; exact hvars _
  · exact trodAll_append (hargs _ (fun _ _ => rfl)) (hres _ _ _)
  · intro b off hp
    have e := (L.un b (hlt (.cell b off) hp) (hn _)).1
    have := hz b off hp
    simpa only [World.frozen?, e] using this
  · intro ha
    simpa using hnd ha
end Jb
end

section
/- From a claim's row to a call, further: cells of any kinds, slices of any rows, slices in structs. -/
namespace Jb
open Go Go.ChangeShapes

/-- What a cell of a type is. -/
inductive Kd where
  | int (k : IntKind)
  | bool
  | str
  | sl (e : TypeId)

/-- The kind of a type's cell at a place. -/
def kindAt (P : Program) : Nat → TypeId → Nat → Option Kd
  | 0, _, _ => none
  | n + 1, t, i => match P.underlying t with
    | some (.int k) => match i with | 0 => some (.int k) | _ => none
    | some .bool => match i with | 0 => some .bool | _ => none
    | some .string => match i with | 0 => some .str | _ => none
    | some (.slice e) => match i with | 0 => some (.sl e) | _ => none
    | some (.struct fs) => match fs.toList.find? (fun f => decide (f.offset ≤ i) && decide (i < f.offset + P.cellsOf f.type)) with
      | some f => kindAt P n f.type (i - f.offset)
      | none => none
    | some (.array k e) => match decide (k * P.cellsOf e = P.cellsOf t) && decide (0 < P.cellsOf e) with
      | true => kindAt P n e (i % P.cellsOf e)
      | false => none
    | _ => none

section
variable {H : Type} {enc : TypeId × Value → H} {P : Program} {w : World} {base : Nat} {spare : Nat → Bool} {held : Bool}

def CellIs (enc : TypeId × Value → H) (P : Program) (w : World) (base : Nat) (spare : Nat → Bool) (held : Bool) : Kd → Value → Prop
  | .int k, c => ∃ z, c = .int k z ∧ (Lit.int k z).wf = true
  | .bool, c => ∃ b, c = .bool b
  | .str, c => ∃ s : ByteArray, c = .string s ∧ s.size ≤ maxLen
  | .sl e, c => ∃ t fuel x, P.underlying t = some (.slice e) ∧ DataW.trod enc P w base spare held fuel t [c] = some x

theorem trod_at : ∀ (n : Nat) {fuel : Nat} {t : TypeId} {cs : List Value} {x : DataW H × List MemPlace} {i : Nat} {k : Kd} {c : Value},
    kindAt P n t i = some k → DataW.trod enc P w base spare held fuel t cs = some x → cs[i]? = some c → CellIs enc P w base spare held k c
  | 0, _, _, _, _, _, _, _, a, _, _ => by cases a
  | n + 1, fuel, t, cs, x, i, k, c, a, h, hc => by
    unfold kindAt at a
    split at a
    · rename_i k' ht
      obtain ⟨z, rfl, _, hw⟩ := DataW.trod_int ht h
      split at a
      · cases a; simp at hc; exact ⟨z, hc.symm, hw⟩
      · cases a
    · rename_i ht
      obtain ⟨z, rfl, _⟩ := DataW.trod_bool ht h
      split at a
      · cases a; simp at hc; exact ⟨z, hc.symm⟩
      · cases a
    · rename_i ht
      obtain ⟨z, rfl, _, hw⟩ := DataW.trod_string ht h
      split at a
      · cases a; simp at hc; exact ⟨z, hc.symm, hw⟩
      · cases a
    · rename_i e ht
      split at a
      · cases a
        have hone : ∃ c', cs = [c'] := by
          rcases DataW.trod_slice ht h with ⟨e1, _⟩ | ⟨_, _, _, _, _, _, _, e1, _⟩
          · exact ⟨_, e1⟩
          · exact ⟨_, e1⟩
        obtain ⟨c', rfl⟩ := hone
        simp at hc
        subst hc
        exact ⟨t, fuel, x, ht, h⟩
      · cases a
    · rename_i fs ht
      split at a
      · rename_i f hf
        obtain ⟨xs, m, rfl, _, hl, hx, hff⟩ := DataW.trod_struct ht h
        have hfm := List.mem_of_find?_eq_some hf
        have hf' := List.find?_some hf
        simp only [Bool.and_eq_true, decide_eq_true_eq] at hf'
        obtain ⟨j, hj, hj'⟩ := List.mem_iff_getElem.1 hfm
        have hj2 : j < fs.size := by simpa using hj
        have hfj : fs[j]? = some f := by rw [← Array.getElem?_toList, List.getElem?_eq_getElem hj, hj']
        have := hff j f hfj
        rw [List.getElem?_eq_getElem (by omega)] at this
        refine trod_at n a this ?_
        rw [List.getElem?_take, if_pos (by omega), List.getElem?_drop, show f.offset + (i - f.offset) = i from by omega]
        exact hc
      · cases a
    · rename_i m e ht
      split at a
      · rename_i hd
        simp only [Bool.and_eq_true, decide_eq_true_eq] at hd
        obtain ⟨xs, q, rfl, hl, hx, hf⟩ := trod_array ht h
        have hi : i < cs.length := (List.getElem?_eq_some_iff.1 hc).1
        have hi2 : i / P.cellsOf e < m := by rw [Nat.div_lt_iff_lt_mul hd.2]; omega
        have := hf _ hi2
        rw [List.getElem?_eq_getElem (by omega)] at this
        have d := Nat.div_add_mod i (P.cellsOf e)
        have l := Nat.mod_lt i hd.2
        have hmul : i / P.cellsOf e * P.cellsOf e = P.cellsOf e * (i / P.cellsOf e) := Nat.mul_comm _ _
        refine trod_at n a this ?_
        rw [List.getElem?_take, if_pos l, List.getElem?_drop, show i / P.cellsOf e * P.cellsOf e + i % P.cellsOf e = i from by omega]
        exact hc
      · cases a
    · cases a

theorem trod_len {fuel : Nat} {t : TypeId} {cs : List Value} {x : DataW H × List MemPlace} (ha : aggT P t = true) (h : DataW.trod enc P w base spare held fuel t cs = some x) : cs.length = P.cellsOf t := by
  unfold aggT at ha
  split at ha
  · rename_i fs ht; exact (DataW.trod_struct ht h).choose_spec.choose_spec.2.2.1
  · rename_i k e ht; exact (trod_array ht h).choose_spec.choose_spec.2.1
  · cases ha

/-- A slice's rows, each one told by 'vals'. -/
theorem rel_slice {α : Type} [Inhabited α] (vals : α → List Value) (cell : α → List V) (hrel : ∀ a, RelL S0 w (cell a) (vals a)) (hone : ∀ a, ∀ c ∈ vals a, c.oneCell' = true) {t e : TypeId} {v : Value} {fuel : Nat} {x : DataW H × List MemPlace}
    (ht : P.underlying t = some (.slice e)) (hpos : 0 < P.cellsOf e) (each : ∀ (n : Nat) (cs : List Value) (y : DataW H × List MemPlace), DataW.trod enc P w 0 spare held n e cs = some y → cs.length = P.cellsOf e → ∃ a, cs = vals a)
    (hv : v = .slice none 0 0 ∨ ∃ b o len cap, v = .slice (some ⟨b, o, none⟩) len cap) (h : DataW.trod enc P w 0 spare held fuel t [v] = some x) :
    ∃ L : List α, L.length ≤ maxLen ∧ Rel S0 w (.sl (P.cellsOf e) (L.map cell) .no) v := by
  rcases hv with rfl | ⟨b, o, len, cap, rfl⟩
  · exact ⟨[], by simp, Rel.slnil _ _ (by simp)⟩
  · rcases DataW.trod_slice ht h with ⟨e1, _⟩ | ⟨a, len', cap', elems, rest, m, rfl, e1, _, _, hle, hcap, hel, hget, _, _⟩
    · simp at e1
    simp only [List.cons.injEq, Value.slice.injEq, Option.some.injEq, and_true] at e1
    obtain ⟨rfl, rfl, rfl⟩ := e1
    have each' : ∀ i, i < len → ∃ a : α, w.cells? 0 (Addr.add ⟨b, o, none⟩ (i * P.cellsOf e)) (P.cellsOf e) = some (vals a) := by
      intro i hi
      have := hget i hi
      rw [List.getElem?_eq_getElem (by omega)] at this
      obtain ⟨cs, h1, h2⟩ := Option.bind_eq_some_iff.1 this
      obtain ⟨a, rfl⟩ := each m cs _ h2 (World.cells?_some h1).2.1
      exact ⟨a, h1⟩
    have : ∃ f : Nat → α, ∀ i, i < len → w.cells? 0 (Addr.add ⟨b, o, none⟩ (i * P.cellsOf e)) (P.cellsOf e) = some (vals (f i)) := by
      refine ⟨fun i => if h : i < len then (each' i h).choose else default, fun i hi => ?_⟩
      simp only [hi, dite_true]
      exact (each' i hi).choose_spec
    obtain ⟨f, hf⟩ := this
    have flen : ∀ i, i < len → (vals (f i)).length = P.cellsOf e := fun i hi => by have := (World.cells?_some (hf i hi)).2.1; simpa using this
    have clen : ∀ i, i < len → (cell (f i)).length = P.cellsOf e := fun i hi => by rw [← (hrel (f i)).1]; exact flen i hi
    have geti : ∀ (i : Nat) (x : List V), (List.map cell ((List.range len).map f))[i]? = some x → i < len ∧ x = cell (f i) := by
      intro i x hx
      simp only [List.getElem?_map, Option.map_eq_some_iff] at hx
      obtain ⟨l, ⟨a, ha, rfl⟩, rfl⟩ := hx
      obtain ⟨hi, rfl⟩ := List.getElem?_eq_some_iff.1 ha
      simp only [List.length_range] at hi
      simp [hi]
    refine ⟨(List.range len).map f, by simp; omega, ?_⟩
    have hk : ∀ (i : Nat) (x : List V), (List.map cell ((List.range len).map f))[i]? = some x → ∀ (j : Nat) (c : V), x[j]? = some c → ∃ y, (vals (f i))[j]? = some y ∧ w.cell? ⟨b, o + i * P.cellsOf e + j, none⟩ = some y ∧ Rel S0 w c y := by
      intro i x hx j c hc
      obtain ⟨hi, rfl⟩ := geti i x hx
      have hj : j < P.cellsOf e := by
        have := (List.getElem?_eq_some_iff.1 hc).1
        rwa [clen i hi] at this
      have e1 := (World.cells?_some (hf i hi)).2.2 j hj
      have hj2 : j < (vals (f i)).length := by rw [flen i hi]; exact hj
      refine ⟨(vals (f i))[j], List.getElem?_eq_getElem hj2, ?_, (hrel (f i)).2 j c _ hc (List.getElem?_eq_getElem hj2)⟩
      rw [show (⟨b, o + i * P.cellsOf e + j, none⟩ : Addr) = (Addr.add ⟨b, o, none⟩ (i * P.cellsOf e)).add j from by simp only [Addr.add]; split <;> split <;> simp_all <;> omega, e1]
      exact List.getElem?_eq_getElem hj2
    have := Rel.sl (S := S0) (w := w) (P.cellsOf e) (List.map cell ((List.range len).map f)) .no b o cap (fun i j => (vals (f i)).getD j Go.undef) hpos (by simp; omega) trivial
      (fun i x hx => by obtain ⟨hi, rfl⟩ := geti i x hx; exact clen i hi)
      (fun i x hx j c hc => by
        obtain ⟨y, y1, y2, y3⟩ := hk i x hx j c hc
        have : (vals (f i)).getD j Go.undef = y := by simp [List.getD, y1]
        rw [this]
        exact ⟨trivial, y2, hone _ _ (List.mem_of_getElem? y1)⟩)
      (fun i x hx j c hc => by
        obtain ⟨y, y1, y2, y3⟩ := hk i x hx j c hc
        have : (vals (f i)).getD j Go.undef = y := by simp [List.getD, y1]
        rw [this]
        exact y3)
    simpa using this

/-- A slice that is an argument, or a cell of one, has a plain address. -/
theorem plain_cell {r : Reach} {t e : TypeId} {v : Value} (ht : P.underlying t = some (.slice e)) (h : Cell.okWide P w r base t v) : v = .slice none 0 0 ∨ ∃ b o len cap, v = .slice (some ⟨b, o, none⟩) len cap := by
  simp only [Cell.okWide, ht] at h
  unfold Cell.ok at h
  rw [ht] at h
  cases v with
  | slice a len cap =>
    cases a with
    | none => cases len <;> cases cap <;> simp_all
    | some a =>
      obtain ⟨b, o, sp⟩ := a
      have : sp = none := h.2.2.2.1
      subst this
      exact .inr ⟨b, o, len, cap, rfl⟩
  | _ => simp at h
theorem plain_slice {r : Reach} {u : TypeId} {a : Option Addr} {len cap : Nat} (h : Cell.okWide P w r base u (.slice a len cap)) (hn : a = none → len = 0 ∧ cap = 0) : Value.slice a len cap = .slice none 0 0 ∨ ∃ b o len' cap', Value.slice a len cap = .slice (some ⟨b, o, none⟩) len' cap' := by
  cases a with
  | none => obtain ⟨rfl, rfl⟩ := hn rfl; exact .inl rfl
  | some a =>
    obtain ⟨b, o, sp⟩ := a
    have hsp : sp = none := by
      unfold Cell.okWide at h
      split at h <;> try (simp_all; done)
      unfold Cell.ok at h
      split at h <;> try (simp_all; done)
      rename_i e1 e2
      simp only [Value.slice.injEq, Option.some.injEq] at e2
      obtain ⟨rfl, rfl, rfl⟩ := e2
      exact h.2.2.2.1
    subst hsp
    exact .inr ⟨b, o, len, cap, rfl⟩

/-- A slice's cell in a struct. -/
theorem sl_plain {b0 : Nat} {r : Reach} {fuel : Nat} {x : DataW H × List MemPlace} {t e u : TypeId} {c : Value} (ht : P.underlying t = some (.slice e)) (h : DataW.trod enc P w base spare held fuel t [c] = some x) (hu : Cell.okWide P w r b0 u c) :
    c = .slice none 0 0 ∨ ∃ b o len cap, c = .slice (some ⟨b, o, none⟩) len cap := by
  rcases DataW.trod_slice ht h with ⟨e1, _⟩ | ⟨a, len, cap, _, _, _, _, e1, _⟩
  · simp only [List.cons.injEq, and_true] at e1; exact .inl e1
  · simp only [List.cons.injEq, and_true] at e1
    subst e1
    exact plain_slice hu (fun h => by cases h)


/-- A struct's cells. -/
theorem struct_cells {r : Reach} {t : TypeId} {v : Value} (ha : aggT P t = true) (hval : Value.okWide P w r base t v) : ∃ cs : List Value, v = .agg cs.toArray ∧ cs.length = P.cellsOf t ∧ v.cells.toList = cs ∧ ∀ c ∈ cs, ∃ u, Cell.okWide P w r base u c := by
  have : ∃ cs, v = .agg cs ∧ cs.size = P.cellsOf t ∧ Row.okWide P w r base t cs := by
    unfold Value.okWide at hval
    unfold aggT at ha
    split at hval
    · exact hval
    · exact hval
    · split at ha <;> simp_all
  obtain ⟨cs, rfl, hl, _, _, _, hr⟩ := this
  refine ⟨cs.toList, rfl, by simpa using hl, rfl, fun c hc => ?_⟩
  obtain ⟨i, hi, rfl⟩ := List.mem_iff_getElem.1 hc
  obtain ⟨u, _, hu⟩ := hr i cs.toList[i] (by simp at hi; simp [hi])
  exact ⟨u, hu⟩
end
end Jb
end
