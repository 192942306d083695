/- Proved here: of JO12, that what the Go functions of this part compute is as their contracts say (texts JbZ, JbZb), for every input; no condition beyond those that each theorem states. -/
import Derived.Test.YtoimhhmlkbdodaaGreatJO3
import Derived.WalkKit
import Derived.ProofKit
import Derived.OpenShut
import Derived.ChangeArms
import Derived.WideKeyArgs
import Derived.RowKit3
import Derived.Handed
set_option linter.all false
section
/- From what is claimed of a Go function to what is asked of a call. -/
namespace Jb
open Go Go.ChangeShapes

def S0 : Sim := ⟨fun _ => none, fun _ => none, fun _ => (0, 0, 0)⟩
def h0 : Heap := fun _ => none
theorem hr0 (w : World) : HR S0 w h0 := ⟨fun l o h => (by cases h), fun l _ => ⟨rfl, rfl⟩⟩

theorem kept_of {h h' : Heap} {S S' : Sim} {w w' : World} (L : Le (fun _ => False) h S w h' S' w') (hn : ∀ rb, S.own rb = none) (may : MemPlace → Prop) : w.keptBut w' may := by
  refine World.keptBut_mono (fun _ f => f.elim) (may := fun _ => False) ⟨L.os, L.output, fun i hi => ?_⟩
  rw [(L.un i hi (hn i)).1]
  exact (World.keptBut_refl w (fun _ => False)).2.2 i hi

theorem same_at {h h' : Heap} {S S' : Sim} {w w' : World} (L : Le (fun _ => False) h S w h' S' w') (hn : ∀ rb, S.own rb = none) (p : MemPlace) (hp : p.block < w.heap.size) : w.sameAt w' p := by
  have e := (L.un p.block hp (hn _)).1
  cases p with
  | cell b off => simp only [MemPlace.block] at e; simp only [World.sameAt, World.cell?, e]
  | map b => exact e

theorem args_again {H : Type} {enc : TypeId × Value → H} {P : Program} (hl : laidOutB P = true) {W W' : World} {sp : Nat → Bool} : ∀ {ts : List TypeId} {vs : List Value} {ds : List (DataW H)} {ps : List MemPlace}, (∀ t ∈ ts, P.readableRec t = true ∧ t < P.types.size) →
    DataW.TrodAll enc P W 0 (fun _ => true) true ts vs ds ps → (∀ p ∈ ps, W.sameAt W' p) → (∀ p ∈ ps, sp p.block = true) → DataW.TrodAll enc P W' 0 sp true ts vs ds ps
  | [], [], [], _, _, h, _, _ => h
  | t :: ts, v :: vs, d :: ds, ps, hts, ⟨p, q, h1, h2, e⟩, hs, hb => by
    subst e
    refine ⟨p, q, ?_, args_again hl (fun t ht => hts t (by simp [ht])) h2 (fun x hx => hs x (by simp [hx])) (fun x hx => hb x (by simp [hx])), rfl⟩
    exact Go.WideElems.Trod_stays hl (hts t (by simp)).1 (hts t (by simp)).2 h1 (fun x hx => hs x (by simp [hx])) (fun x hx => hb x (by simp [hx]))
  | [], _ :: _, _, _, _, h, _, _ => h.elim
  | [], [], _ :: _, _, _, h, _, _ => h.elim
  | _ :: _, [], _, _, _, h, _, _ => h.elim
  | _ :: _, _ :: _, [], _, _, h, _, _ => h.elim

theorem post_law {H : Type} {enc : TypeId × Value → H} {P : Program} {f : Func} {s : ChangeSpec} {apart fresh handsOn again : Bool} {W W' : World} {args : Array Value} {ds gs : List (DataW H)} {before : List MemPlace} {h h' : Heap} {S S' : Sim}
    (hW : DataW.Whole enc P f.params.toList s.vars apart W args.toList ds gs before) (hv : s.vars = []) (hs : (s.fn H (ds ++ gs)).results = [.lit (.bool true)] ∧ (s.fn H (ds ++ gs)).args = ds ∧ (s.fn H (ds ++ gs)).vars = [])
    {b : TypeId} (hr : f.resultTypes = #[b]) (hb : P.underlying b = some .bool) (hl : laidOutB P = true) (hts : ∀ t ∈ f.params.toList, P.readableRec t = true ∧ t < P.types.size)
    (L : Le (fun _ => False) h S W h' S' W') (hn : ∀ rb, S.own rb = none) : s.post enc P f apart fresh handsOn again W args (.bool true) W' := by
  have hlt := hW.lt
  have hsame : ∀ p ∈ before, W.sameAt W' p := fun p hp => same_at L hn p (hlt p hp)
  obtain ⟨s1, s2, s3⟩ := hs
  have hres : ∀ (b' : Nat) (sp : Nat → Bool) (hd : Bool), DataW.TrodAll enc P W' b' sp hd f.resultTypes.toList ((Value.bool true).resultList f.resultTypes.size) [.lit (.bool true)] [] := by
    intro b' sp hd
    rw [hr]
    exact trodAll_cons_mk (Go.RowKit.shut_bool hb true) trodAll_mk0
  have hok : ∀ (j : Nat) (t : TypeId) (r : Value), f.resultTypes[j]? = some t → ((Value.bool true).resultList f.resultTypes.size)[j]? = some r → Value.okWide P W' .any 0 t r :=
    Go.RowKit.ok_one hr rfl (Go.RowKit.okWide_bool_mk hb true)
  have hW0 := hW
  obtain ⟨p, q, hA, hV, rfl, hz, hnd⟩ := hW
  rw [hv] at hV
  obtain ⟨rfl, rfl⟩ := trodVars_none hV
  simp only [List.append_nil] at hsame hlt hz hnd hW0 s1 s2 s3
  have hargs : ∀ sp : Nat → Bool, (∀ x ∈ p, sp x.block = true) → DataW.TrodAll enc P W' 0 sp true f.params.toList args.toList ds p := fun sp hsp => args_again hl hts hA hsame hsp
  have hvars : ∀ sp : Nat → Bool, DataW.TrodVars enc P W' sp s.vars [] [] := fun sp => by rw [hv]; rfl
  refine ⟨ds, [], p, [], p, [], hW0, ?_, ?_, ?_, kept_of L hn _, fun _ => ⟨hok, .lit (.bool true) :: ds, [], p, ⟨[] ++ p, [], ?_, hvars _, by simp, ?_, ?_⟩, fun x hx _ => hx⟩⟩
  · rw [List.append_nil, s1]; exact hres _ _ _
  · rw [List.append_nil, s2]; exact hargs _ (fun x hx => by simpa using hlt x hx)
  · rw [List.append_nil, s3]; exact hvars _
  · exact trodAll_append (hargs _ (fun _ _ => rfl)) (hres _ _ _)
  · intro b off hp
    have e := (L.un b (hlt (.cell b off) hp) (hn _)).1
    have := hz b off hp
    simpa only [World.frozen?, e] using this
  · intro ha
    simpa using hnd ha
end Jb
end

section
/- From a claim's row to a call, further: cells of any kinds, slices of any rows, slices in structs. -/
namespace Jb
open Go Go.ChangeShapes

inductive Kd where
  | int (k : IntKind)
  | bool
  | str
  | sl (e : TypeId)

section
variable {H : Type} {enc : TypeId × Value → H} {P : Program} {w : World} {base : Nat} {spare : Nat → Bool} {held : Bool}

theorem rel_slice {α : Type} [Inhabited α] (vals : α → List Value) (cell : α → List V) (hrel : ∀ a, RelL S0 w (cell a) (vals a)) (hone : ∀ a, ∀ c ∈ vals a, c.oneCell' = true) {t e : TypeId} {v : Value} {fuel : Nat} {x : DataW H × List MemPlace}
    (ht : P.underlying t = some (.slice e)) (hpos : 0 < P.cellsOf e) (each : ∀ (n : Nat) (cs : List Value) (y : DataW H × List MemPlace), DataW.trod enc P w 0 spare held n e cs = some y → cs.length = P.cellsOf e → ∃ a, cs = vals a)
    (hv : v = .slice none 0 0 ∨ ∃ b o len cap, v = .slice (some ⟨b, o, none⟩) len cap) (h : DataW.trod enc P w 0 spare held fuel t [v] = some x) :
    ∃ L : List α, L.length ≤ maxLen ∧ Rel S0 w (.sl (P.cellsOf e) (L.map cell) .no) v := by
  rcases hv with rfl | ⟨b, o, len, cap, rfl⟩
  · exact ⟨[], by simp, Rel.slnil _ _ (by simp)⟩
  · rcases DataW.trod_slice ht h with ⟨e1, _⟩ | ⟨a, len', cap', elems, rest, m, rfl, e1, _, _, hle, hcap, hel, hget, _, _⟩
    · simp at e1
    simp only [List.cons.injEq, Value.slice.injEq, Option.some.injEq, and_true] at e1
    obtain ⟨rfl, rfl, rfl⟩ := e1
    have each' : ∀ i, i < len → ∃ a : α, w.cells? 0 (Addr.add ⟨b, o, none⟩ (i * P.cellsOf e)) (P.cellsOf e) = some (vals a) := by
      intro i hi
      have := hget i hi
      rw [List.getElem?_eq_getElem (by omega)] at this
      obtain ⟨cs, h1, h2⟩ := Option.bind_eq_some_iff.1 this
      obtain ⟨a, rfl⟩ := each m cs _ h2 (World.cells?_some h1).2.1
      exact ⟨a, h1⟩
    have : ∃ f : Nat → α, ∀ i, i < len → w.cells? 0 (Addr.add ⟨b, o, none⟩ (i * P.cellsOf e)) (P.cellsOf e) = some (vals (f i)) := by
      refine ⟨fun i => if h : i < len then (each' i h).choose else default, fun i hi => ?_⟩
      simp only [hi, dite_true]
      exact (each' i hi).choose_spec
    obtain ⟨f, hf⟩ := this
    have flen : ∀ i, i < len → (vals (f i)).length = P.cellsOf e := fun i hi => by have := (World.cells?_some (hf i hi)).2.1; simpa using this
    have clen : ∀ i, i < len → (cell (f i)).length = P.cellsOf e := fun i hi => by rw [← (hrel (f i)).1]; exact flen i hi
    have geti : ∀ (i : Nat) (x : List V), (List.map cell ((List.range len).map f))[i]? = some x → i < len ∧ x = cell (f i) := by
      intro i x hx
      simp only [List.getElem?_map, Option.map_eq_some_iff] at hx
      obtain ⟨l, ⟨a, ha, rfl⟩, rfl⟩ := hx
      obtain ⟨hi, rfl⟩ := List.getElem?_eq_some_iff.1 ha
      simp only [List.length_range] at hi
      simp [hi]
    refine ⟨(List.range len).map f, by simp; omega, ?_⟩
    have hk : ∀ (i : Nat) (x : List V), (List.map cell ((List.range len).map f))[i]? = some x → ∀ (j : Nat) (c : V), x[j]? = some c → ∃ y, (vals (f i))[j]? = some y ∧ w.cell? ⟨b, o + i * P.cellsOf e + j, none⟩ = some y ∧ Rel S0 w c y := by
      intro i x hx j c hc
      obtain ⟨hi, rfl⟩ := geti i x hx
      have hj : j < P.cellsOf e := by
        have := (List.getElem?_eq_some_iff.1 hc).1
        rwa [clen i hi] at this
      have e1 := (World.cells?_some (hf i hi)).2.2 j hj
      have hj2 : j < (vals (f i)).length := by rw [flen i hi]; exact hj
      refine ⟨(vals (f i))[j], List.getElem?_eq_getElem hj2, ?_, (hrel (f i)).2 j c _ hc (List.getElem?_eq_getElem hj2)⟩
      rw [show (⟨b, o + i * P.cellsOf e + j, none⟩ : Addr) = (Addr.add ⟨b, o, none⟩ (i * P.cellsOf e)).add j from by simp only [Addr.add]; split <;> split <;> simp_all <;> omega, e1]
      exact List.getElem?_eq_getElem hj2
    have := Rel.sl (S := S0) (w := w) (P.cellsOf e) (List.map cell ((List.range len).map f)) .no b o cap (fun i j => (vals (f i)).getD j Go.undef) hpos (by simp; omega) trivial
      (fun i x hx => by obtain ⟨hi, rfl⟩ := geti i x hx; exact clen i hi)
      (fun i x hx j c hc => by
        obtain ⟨y, y1, y2, y3⟩ := hk i x hx j c hc
        have : (vals (f i)).getD j Go.undef = y := by simp [List.getD, y1]
        rw [this]
        exact ⟨trivial, y2, hone _ _ (List.mem_of_getElem? y1)⟩)
      (fun i x hx j c hc => by
        obtain ⟨y, y1, y2, y3⟩ := hk i x hx j c hc
        have : (vals (f i)).getD j Go.undef = y := by simp [List.getD, y1]
        rw [this]
        exact y3)
    simpa using this

theorem plain_cell {r : Reach} {t e : TypeId} {v : Value} (ht : P.underlying t = some (.slice e)) (h : Cell.okWide P w r base t v) : v = .slice none 0 0 ∨ ∃ b o len cap, v = .slice (some ⟨b, o, none⟩) len cap := by
  simp only [Cell.okWide, ht] at h
  unfold Cell.ok at h
  rw [ht] at h
  cases v with
  | slice a len cap =>
    cases a with
    | none => cases len <;> cases cap <;> simp_all
    | some a =>
      obtain ⟨b, o, sp⟩ := a
      have : sp = none := h.2.2.2.1
      subst this
      exact .inr ⟨b, o, len, cap, rfl⟩
  | _ => simp at h
end
end Jb
end
