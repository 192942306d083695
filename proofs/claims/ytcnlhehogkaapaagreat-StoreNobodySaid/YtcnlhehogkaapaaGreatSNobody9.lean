/- Proved here: of SNobody9, that what the Go functions of this part compute is as their contracts say (texts JxI), for every input; no condition beyond those that each theorem states. -/
import Derived.Test.YtcnlhehogkaapaaGreatSNobody5
import Derived.Test.YtcnlhehogkaapaaGreatSNobody8
set_option linter.all false
section
/- Arguments that a run does not look into. -/
namespace Jx
open Go Go.ChangeShapes Jb

/-- Slices that are unknown, but for the bounds of their lengths. -/
def mkL (ns : List (Nat × List (List V))) (ok : ∀ p ∈ ns, lo (p.1 : Int) ≤ p.2.length ∧ ∀ x, hi (p.1 : Int) = some x → (p.2.length : Int) ≤ x) : Locs where
  at_ := fun _ => none
  num := fun n => match ns.find? (fun p => (p.1 : Int) == n) with | some p => some (p.2.length : Int) | none => none
  sl := fun n => match ns.find? (fun p => p.1 == n) with | some p => some (p.2, .no) | none => none
  rng := by
    intro n m h
    split at h
    · rename_i p hp
      cases h
      have h1 := List.mem_of_find?_eq_some hp
      have h2 := List.find?_some hp
      have := eq_of_beq h2
      subst this
      exact ok p h1
    · cases h

/-- One unknown number. -/
def mkN (n : Nat) (m : Int) (ok : lo (n : Int) ≤ m ∧ ∀ x, hi (n : Int) = some x → m ≤ x) : Locs where
  at_ := fun _ => none
  num := fun k => if k = (n : Int) then some m else none
  sl := fun _ => none
  rng := by
    intro k m' h
    split at h
    · rename_i e; cases h; subst e; exact ok
    · cases h

section
variable {H : Type} {enc : TypeId × Value → H} {P : Program} {w : World} {spare : Nat → Bool} {held : Bool}

theorem cell_one {base : Nat} {k : Kd} {c : Value} (h : CellIs enc P w base spare held k c) : c.oneCell' = true := by
  cases k with
  | int k => obtain ⟨z, rfl, _⟩ := h; rfl
  | bool => obtain ⟨z, rfl⟩ := h; rfl
  | str => obtain ⟨z, rfl, _⟩ := h; rfl
  | sl e =>
    obtain ⟨t, fuel, x, ht, h⟩ := h
    rcases DataW.trod_slice ht h with ⟨e1, _⟩ | ⟨a, len, cap, _, _, _, _, e1, _⟩
    · simp only [List.cons.injEq, and_true] at e1; subst e1; rfl
    · simp only [List.cons.injEq, and_true] at e1; subst e1; rfl

def Ones (n : Nat) : Type := { cs : List Value // cs.length = n ∧ ∀ c ∈ cs, c.oneCell' = true }
instance (n : Nat) : Inhabited (Ones n) := ⟨⟨List.replicate n (.bool true), by simp, fun c hc => by rw [List.eq_of_mem_replicate hc]; rfl⟩⟩

/-- A slice, of which nothing is told. -/
theorem rel_opaque {t e : TypeId} {v : Value} {fuel : Nat} {x : DataW H × List MemPlace} (ht : P.underlying t = some (.slice e)) (hpos : 0 < P.cellsOf e) (hk : (List.range (P.cellsOf e)).all (fun i => (kindAt P 6 e i).isSome) = true)
    (hv : v = .slice none 0 0 ∨ ∃ b o len cap, v = .slice (some ⟨b, o, none⟩) len cap) (h : DataW.trod enc P w 0 spare held fuel t [v] = some x) :
    ∃ L : List (List V), Rel S0 w (.sl (P.cellsOf e) L .no) v ∧ ∃ n, L = List.replicate n (List.replicate (P.cellsOf e) .undef) := by
  obtain ⟨L, _, hL⟩ := rel_slice (P := P) (α := Ones (P.cellsOf e)) (fun a => a.1) (fun _ => List.replicate (P.cellsOf e) .undef)
    (fun a => ⟨by rw [a.2.1]; simp, fun i v u hv _ => by
      rw [List.getElem?_replicate] at hv
      split at hv
      · cases hv; exact .undef _
      · cases hv⟩) (fun a => a.2.2) ht hpos
    (fun n cs y hy hl => by
      refine ⟨⟨cs, hl, fun c hc => ?_⟩, rfl⟩
      obtain ⟨i, hi⟩ := List.getElem?_of_mem hc
      have hlt : i < P.cellsOf e := by rw [← hl]; exact (List.getElem?_eq_some_iff.1 hi).1
      have := List.all_eq_true.1 hk i (List.mem_range.2 hlt)
      obtain ⟨k, hk⟩ := Option.isSome_iff_exists.1 this
      exact cell_one (trod_at 6 hk hy hi)) hv h
  refine ⟨_, hL, L.length, ?_⟩
  exact List.eq_replicate_iff.2 ⟨by simp, fun b hb => by obtain ⟨a, _, rfl⟩ := List.mem_map.1 hb; rfl⟩
end
end Jx
end
