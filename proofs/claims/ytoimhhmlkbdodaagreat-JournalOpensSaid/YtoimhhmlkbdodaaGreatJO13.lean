/- Proved here: of JO13, that what the Go functions of this part compute is as their contracts say (texts Jy), for every input; no condition beyond those that each theorem states. -/
import Derived.Test.YtoimhhmlkbdodaaGreatJO6
import Derived.Test.YtoimhhmlkbdodaaGreatJO12
set_option linter.all false
section
/- What an argument of slices of bytes stands for. -/
namespace J
open Go Go.ChangeShapes Go.WideShapes Go.ChangeAt Go.RowKit Jb Js
set_option maxRecDepth 100000
variable {H : Type} {enc : TypeId × Value → H} {P : Program} {w : World} {held : Bool}
theorem trod_u8 {e : TypeId} {n : Nat} {cs : List Value} {y : DataW H × List MemPlace} (ht : P.underlying e = some (.int .u8)) (h : DataW.trod enc P w 0 (fun _ => true) held n e cs = some y) : ∃ b : UInt8, cs = [.int .u8 b.toNat] := by
  cases n with
  | zero => simp [DataW.trod] at h
  | succ n =>
    unfold DataW.trod at h
    rw [ht] at h
    split at h <;> try (simp_all; done)
    rename_i k k' z e1
    simp only [Option.some.injEq, TypeDesc.int.injEq] at e1
    subst e1
    split at h
    · rename_i hc
      obtain ⟨rfl, hw⟩ := hc
      have hw : 0 ≤ z ∧ z ≤ 255 := by
        simp [Lit.wf, IntKind.min, IntKind.max, IntKind.signed, IntKind.bits] at hw
        omega
      refine ⟨UInt8.ofNat z.toNat, ?_⟩
      have : ((UInt8.ofNat z.toNat).toNat : Int) = z := by
        rw [UInt8.toNat_ofNat']
        omega
      rw [this]
    · cases h
theorem rel_inner {t e : TypeId} {n : Nat} {c : Value} {y : DataW H × List MemPlace} (hs : P.underlying t = some (.slice e)) (he : P.underlying e = some (.int .u8)) (h1 : P.cellsOf e = 1) (h : DataW.trod enc P w 0 (fun _ => true) held n t [c] = some y) :
    ∃ b : List UInt8, Rel S0 w (.sl 1 (bs b) .no) c ∧ c.oneCell' = true := by
  have plain : (c = .slice none 0 0 ∨ ∃ b o len cap, c = .slice (some ⟨b, o, none⟩) len cap) → ∃ b : List UInt8, Rel S0 w (.sl 1 (bs b) .no) c ∧ c.oneCell' = true := by
    intro hv
    obtain ⟨L, _, hL⟩ := rel_slice (P := P) (fun b : UInt8 => [Value.int .u8 (b.toNat : Int)]) (fun b : UInt8 => [V.int .u8 (b.toNat : Int)]) (fun b => .cons (.int _ _) .nil) (fun b c hc => by simp at hc; subst hc; rfl) hs (by omega) (fun n cs y hy _ => trod_u8 he hy) hv h
    rw [h1] at hL
    exact ⟨L, hL, by rcases hv with rfl | ⟨_, _, _, _, rfl⟩ <;> rfl⟩
  rcases DataW.trod_slice hs h with ⟨e1, _⟩ | ⟨a, len, cap, elems, rest, m, _, e1, _, _, hle, hcap, hel, hget, hrest, _⟩
  · simp only [List.cons.injEq, and_true] at e1; exact plain (.inl e1)
  · simp only [List.cons.injEq, and_true] at e1
    subst e1
    obtain ⟨b, o, sp⟩ := a
    cases sp with
    | none => exact plain (.inr ⟨b, o, len, cap, rfl⟩)
    | some sp =>
      by_cases h0 : cap = 0
      · subst h0
        have : len = 0 := by omega
        subst this
        exact ⟨[], Rel.slnil _ _ (by simp) _, rfl⟩
      · exfalso
        have bad : w.cells? 0 (Addr.add ⟨b, o, some sp⟩ (0 * P.cellsOf e)) (P.cellsOf e) = none := by
          rw [h1]
          simp [World.cells?, Addr.add, World.cell?, List.range_succ]
          split <;> simp
        by_cases hl : len = 0
        · subst hl
          obtain ⟨r1, r2⟩ := hrest rfl
          have := r2 0 (by omega)
          rw [Nat.zero_add, bad] at this
          rw [List.getElem?_eq_getElem (by omega)] at this
          cases this
        · have := hget 0 (by omega)
          rw [bad] at this
          rw [List.getElem?_eq_getElem (by omega)] at this
          cases this
theorem rel_files {t t2 e : TypeId} {n : Nat} {v : Value} {y : DataW H × List MemPlace} (ht : P.underlying t = some (.slice t2)) (hs : P.underlying t2 = some (.slice e)) (he : P.underlying e = some (.int .u8)) (h2 : P.cellsOf t2 = 1) (h1 : P.cellsOf e = 1)
    (hv : v = .slice none 0 0 ∨ ∃ b o len cap, v = .slice (some ⟨b, o, none⟩) len cap) (h : DataW.trod enc P w 0 (fun _ => true) held n t [v] = some y) :
    ∃ fs : List (List UInt8), fs.length ≤ maxLen ∧ Rel S0 w (.sl 1 (fs.map fun b => [.sl 1 (bs b) .no]) .no) v := by
  let α := { p : Value × List UInt8 // Rel S0 w (.sl 1 (bs p.2) .no) p.1 ∧ p.1.oneCell' = true }
  have : Inhabited α := ⟨⟨(.slice none 0 0, []), Rel.slnil _ _ (by simp), rfl⟩⟩
  obtain ⟨L, hl, hL⟩ := rel_slice (P := P) (fun a : α => [a.1.1]) (fun a : α => [V.sl 1 (bs a.1.2) .no]) (fun a => .cons a.2.1 .nil) (fun a c hc => by simp at hc; subst hc; exact a.2.2) ht (by omega)
    (fun n cs y hy hc => by
      rw [h2] at hc
      obtain ⟨c, rfl⟩ := List.length_eq_one_iff.1 hc
      obtain ⟨b, hb⟩ := rel_inner hs he h1 hy
      exact ⟨⟨(c, b), hb⟩, rfl⟩) hv h
  rw [h2] at hL
  exact ⟨L.map fun a => a.1.2, by simpa using hl, by simpa [List.map_map, Function.comp_def] using hL⟩
end J
end
