/- Proved here: of SN8, that what the Go functions of this part compute is as their contracts say (texts JxI, JxJ), for every input; no condition beyond those that each theorem states. -/
import Derived.Test.YtlmmjopgedgmbaaGreatDoorSN5
import Derived.Test.YtlmmjopgedgmbaaGreatDoorSN7
import Derived.Laws.Externs
import Derived.KernelRfl
set_option linter.all false
section
/- Arguments that a run does not look into. -/
namespace Jx
open Go Go.ChangeShapes Jb

/-- Slices that are unknown, but for the bounds of their lengths. -/
def mkL (ns : List (Nat × List (List V))) (ok : ∀ p ∈ ns, lo (p.1 : Int) ≤ p.2.length ∧ ∀ x, hi (p.1 : Int) = some x → (p.2.length : Int) ≤ x) : Locs where
  at_ := fun _ => none
  num := fun n => match ns.find? (fun p => (p.1 : Int) == n) with | some p => some (p.2.length : Int) | none => none
  sl := fun n => match ns.find? (fun p => p.1 == n) with | some p => some (p.2, .no) | none => none
  rng := by
    intro n m h
    split at h
    · rename_i p hp
      cases h
      have h1 := List.mem_of_find?_eq_some hp
      have h2 := List.find?_some hp
      have := eq_of_beq h2
      subst this
      exact ok p h1
    · cases h

/-- One unknown number. -/
def mkN (n : Nat) (m : Int) (ok : lo (n : Int) ≤ m ∧ ∀ x, hi (n : Int) = some x → m ≤ x) : Locs where
  at_ := fun _ => none
  num := fun k => if k = (n : Int) then some m else none
  sl := fun _ => none
  rng := by
    intro k m' h
    split at h
    · rename_i e; cases h; subst e; exact ok
    · cases h

section
variable {H : Type} {enc : TypeId × Value → H} {P : Program} {w : World} {spare : Nat → Bool} {held : Bool}

theorem cell_one {base : Nat} {k : Kd} {c : Value} (h : CellIs enc P w base spare held k c) : c.oneCell' = true := by
  cases k with
  | int k => obtain ⟨z, rfl, _⟩ := h; rfl
  | bool => obtain ⟨z, rfl⟩ := h; rfl
  | str => obtain ⟨z, rfl, _⟩ := h; rfl
  | sl e =>
    obtain ⟨t, fuel, x, ht, h⟩ := h
    rcases DataW.trod_slice ht h with ⟨e1, _⟩ | ⟨a, len, cap, _, _, _, _, e1, _⟩
    · simp only [List.cons.injEq, and_true] at e1; subst e1; rfl
    · simp only [List.cons.injEq, and_true] at e1; subst e1; rfl

def Ones (n : Nat) : Type := { cs : List Value // cs.length = n ∧ ∀ c ∈ cs, c.oneCell' = true }
instance (n : Nat) : Inhabited (Ones n) := ⟨⟨List.replicate n (.bool true), by simp, fun c hc => by rw [List.eq_of_mem_replicate hc]; rfl⟩⟩

/-- A slice, of which nothing is told. -/
theorem rel_opaque {t e : TypeId} {v : Value} {fuel : Nat} {x : DataW H × List MemPlace} (ht : P.underlying t = some (.slice e)) (hpos : 0 < P.cellsOf e) (hk : (List.range (P.cellsOf e)).all (fun i => (kindAt P 6 e i).isSome) = true)
    (hv : v = .slice none 0 0 ∨ ∃ b o len cap, v = .slice (some ⟨b, o, none⟩) len cap) (h : DataW.trod enc P w 0 spare held fuel t [v] = some x) :
    ∃ L : List (List V), Rel S0 w (.sl (P.cellsOf e) L .no) v ∧ ∃ n, L = List.replicate n (List.replicate (P.cellsOf e) .undef) := by
  obtain ⟨L, _, hL⟩ := rel_slice (P := P) (α := Ones (P.cellsOf e)) (fun a => a.1) (fun _ => List.replicate (P.cellsOf e) .undef)
    (fun a => ⟨by rw [a.2.1]; simp, fun i v u hv _ => by
      rw [List.getElem?_replicate] at hv
      split at hv
      · cases hv; exact .undef _
      · cases hv⟩) (fun a => a.2.2) ht hpos
    (fun n cs y hy hl => by
      refine ⟨⟨cs, hl, fun c hc => ?_⟩, rfl⟩
      obtain ⟨i, hi⟩ := List.getElem?_of_mem hc
      have hlt : i < P.cellsOf e := by rw [← hl]; exact (List.getElem?_eq_some_iff.1 hi).1
      have := List.all_eq_true.1 hk i (List.mem_range.2 hlt)
      obtain ⟨k, hk⟩ := Option.isSome_iff_exists.1 this
      exact cell_one (trod_at 6 hk hy hi)) hv h
  refine ⟨_, hL, L.length, ?_⟩
  exact List.eq_replicate_iff.2 ⟨by simp, fun b hb => by obtain ⟨a, _, rfl⟩ := List.mem_map.1 hb; rfl⟩
end
end Jx
end

section
/- Functions that are not run: math/bits.Add64. -/
namespace Jx
open Go Jb

/-- One hook, or another. -/
def orHook (a b : Hook) : Hook := fun f args h nx => match a f args h nx with | some r => some r | none => b f args h nx
theorem or_ok {P : Program} {a b : Hook} (ha : HookOk P a) (hb : HookOk P b) : HookOk P (orHook a b) := by
  intro f args H nx v H' nx' hr
  unfold orHook at hr
  split at hr
  · rename_i r hh; cases hr; exact ha _ _ _ _ _ _ _ hh
  · exact hb _ _ _ _ _ _ _ hr
def noHook : Hook := fun _ _ _ _ => none
theorem no_ok {P : Program} : HookOk P noHook := fun _ _ _ _ _ _ _ hr => by cases hr

def addHook (k : FuncId) : Hook := fun f args h nx =>
  match Nat.beq f k, args with
  | true, [.int .u64 (.ofNat x), .int .u64 (.ofNat y), .int .u64 (.ofNat c)] => match Nat.ble c 1 with
    | true => some (.tup [.int .u64 (.ofNat ((x + y + c) % 18446744073709551616)), .int .u64 (.ofNat ((x + y + c) / 18446744073709551616))], h, nx)
    | false => none
  | _, _ => none

theorem add_ok {P : Program} {k : FuncId} {fn : Func} (hf : P.funcs[k]? = some fn) (h1 : (fn.name == "runtime.NumGoroutine") = false) (h2 : fn.body.isNone = true) (h3 : Extern.findNext fn = none) (h4 : Extern.find fn = some add64Entry)
    (he : enters P k = false) : HookOk P (addHook k) := by
  intro f args H nx v H' nx' hr ρ args' h ha X
  unfold addHook at hr
  split at hr
  case h_2 => cases hr
  rename_i x y c hk
  split at hr
  case h_2 => cases hr
  rename_i hc
  have hc := Nat.le_of_ble_eq_true hc
  cases hr
  have hk := Nat.eq_of_beq_eq_true hk
  subst hk
  have hargs : args' = [.int .u64 (x : Int), .int .u64 (y : Int), .int .u64 (c : Int)] := by
    match args', ha.1 with
    | [a, b, d], _ =>
      have e0 := ha.2 0 _ a rfl rfl
      have e1 := ha.2 1 _ b rfl rfl
      have e2 := ha.2 2 _ d rfl rfl
      cases e0; cases e1; cases e2
      rfl
  subst hargs
  unfold AnyW
  rw [he]
  intro S w xs H R
  obtain ⟨hl, hr⟩ := R
  match xs, hl with
  | [a, b, d], _ =>
    have g0 := hr 0 _ a rfl rfl
    have g1 := hr 1 _ b rfl rfl
    have g2 := hr 2 _ d rfl rfl
    cases g0; cases g1; cases g2
    refine ⟨.tup [.int .u64 (((x : Int) + y + c) % 18446744073709551616), .int .u64 (((x : Int) + y + c) / 18446744073709551616)],
      .tuple #[.int .u64 (((x : Int) + y + c) % 18446744073709551616), .int .u64 (((x : Int) + y + c) / 18446744073709551616)], w, h, S, ?_, ⟨ρ, Sub.refl _, ?_, X⟩, H, ?_, Le.refl _ _ _ _⟩
    · have := run_add64 (P := P) x y c (by omega) (by omega) (by omega) (by omega) w
      rw [run_callFunc_extern hf h1 h2 h3 h4, show ([Value.int .u64 (x : Int), .int .u64 (y : Int), .int .u64 (c : Int)].toArray) = #[.int .u64 (x : Int), .int .u64 (y : Int), .int .u64 (c : Int)] from rfl, this]
      simp [Result.andThen]
    · have q1 : (((x : Int) + y + c) % 18446744073709551616) = Int.ofNat ((x + y + c) % 18446744073709551616) := by
        rw [Int.ofNat_eq_natCast]; omega
      have q2 : (((x : Int) + y + c) / 18446744073709551616) = Int.ofNat ((x + y + c) / 18446744073709551616) := by
        rw [Int.ofNat_eq_natCast]; omega
      rw [q1, q2]
      have : VL ρ [.int .u64 (.ofNat ((x + y + c) % 18446744073709551616)), .int .u64 (.ofNat ((x + y + c) / 18446744073709551616))] [.int .u64 (.ofNat ((x + y + c) % 18446744073709551616)), .int .u64 (.ofNat ((x + y + c) / 18446744073709551616))] :=
        .cons (.int _ _) (.cons (.int _ _) .nil)
      exact .tup _ _ this.1 this.2
    · exact Rel.tup _ [_, _] rfl (fun i v x hv hx => by
        match i with
        | 0 => simp at hv hx; subst hv hx; exact Rel.int _ _
        | 1 => simp at hv hx; subst hv hx; exact Rel.int _ _
        | i + 2 => simp at hv)
end Jx
namespace Jx
open Go Jb

/-- Unknown numbers, each between its bounds. -/
def mkM (ns : List (Nat × Int)) (ok : ∀ p ∈ ns, lo (p.1 : Int) ≤ p.2 ∧ ∀ x, hi (p.1 : Int) = some x → p.2 ≤ x) : Locs where
  at_ := fun _ => none
  num := fun k => match ns.find? (fun p => (p.1 : Int) == k) with | some p => some p.2 | none => none
  sl := fun _ => none
  rng := by
    intro n m h
    split at h
    · rename_i p hp
      cases h
      have h1 := List.mem_of_find?_eq_some hp
      have h2 := List.find?_some hp
      have := eq_of_beq h2
      subst this
      exact ok p h1
    · cases h

def told : Option (V × T Xb × Nat) → Option V | some r => some r.1 | none => none

def noL : Locs := ⟨fun _ => none, fun _ => none, fun _ => none, fun _ _ e => by cases e⟩

/-- What is run, is so. -/
theorem runsOf {P : Program} (hmix : P.follows .mixedOrders = true) {hk : Hook} (ok : HookOk P hk) {f : FuncId} (he : enters P f = true) {args : List V} {b : Bool} {fuel d : Nat} (hr : told ((callX P hk fuel d).call f args .nil 1) = some (.bool b))
    {ρ : Locs} (h0 : ∀ k, ρ k = none) {args' : List V} (ha : VL ρ args args') (h : Heap) : CallW P f args' h fun u _ => u = .bool b := by
  cases e : (callX P hk fuel d).call f args .nil 1 with
  | none => rw [e] at hr; cases hr
  | some r =>
    obtain ⟨v, H, nx⟩ := r
    rw [e] at hr
    simp only [told, Option.some.injEq] at hr
    subst hr
    refine (closed hmix ok he e h0 ha h).mono ?_
    rintro u h' ⟨ρ', _, hv⟩
    cases hv
    rfl
end Jx
namespace Jx
open Go Jb
/-- Unknown numbers, and slices. -/
def mkB (ns : List (Nat × Int)) (ls : List (Nat × List (List V))) (ok : ∀ p ∈ ns ++ ls.map (fun p => (p.1, (p.2.length : Int))), lo (p.1 : Int) ≤ p.2 ∧ ∀ x, hi (p.1 : Int) = some x → p.2 ≤ x) : Locs where
  at_ := fun _ => none
  num := fun k => match (ns ++ ls.map (fun p => (p.1, (p.2.length : Int)))).find? (fun p => (p.1 : Int) == k) with | some p => some p.2 | none => none
  sl := fun n => match ls.find? (fun p => p.1 == n) with | some p => some (p.2, .no) | none => none
  rng := by
    intro n m h
    split at h
    · rename_i p hp
      cases h
      have h1 := List.mem_of_find?_eq_some hp
      have h2 := List.find?_some hp
      have := eq_of_beq h2
      subst this
      exact ok p h1
    · cases h
end Jx
end
