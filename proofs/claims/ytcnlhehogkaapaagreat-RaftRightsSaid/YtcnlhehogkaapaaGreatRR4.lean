/- Proved here: of RR4, that what the Go functions of this part compute is as their contracts say (texts JbMb, JbMc, JbO, JbP, JbQ, JbS, JbT, JbR, JbU, JbV, JbW, JbRa), for every input; no condition beyond those that each theorem states. -/
import Derived.Test.YtcnlhehogkaapaaGreatRR3
import Derived.Laws.MakeOwn
import Derived.Orders
import Derived.RangeFuncIn
set_option linter.all false
section
/- Effects on slices as they come: append, copy, clear, new slices. -/
namespace Jb
open Go Go.RowKit

section
variable {P : Program} {S : Sim} {w : World} {h : Heap} {lm : Nat → Option Nat}

theorem chunks_len (es : Nat) : ∀ (n : Nat) (cs : List V), n * es ≤ cs.length → (chunks es n cs).length = n ∧ (∀ (i : Nat) (e : List V), (chunks es n cs)[i]? = some e → e.length = es) ∧ (chunks es n cs).flatten = cs.take (n * es)
  | 0, cs, _ => ⟨rfl, fun i e h => by simp [chunks] at h, by simp [chunks]⟩
  | n + 1, cs, h => by
    rw [Nat.add_mul, Nat.one_mul] at h
    obtain ⟨h1, h2, h3⟩ := chunks_len es n (cs.drop es) (by simp; omega)
    refine ⟨by simp [chunks, h1], fun i e he => ?_, ?_⟩
    · cases i with
      | zero => simp only [chunks, List.getElem?_cons_zero, Option.some.injEq] at he; subst he; simp; omega
      | succ i => simp only [chunks, List.getElem?_cons_succ] at he; exact h2 i e he
    · simp only [chunks, List.flatten_cons, h3]
      rw [Nat.add_mul, Nat.one_mul, Nat.add_comm (n * es) es, List.take_add]

theorem At.cells {rb o : Nat} {cs : List V} (h : At S w rb o cs) {off n : Nat} (hn : off + n ≤ cs.length) :
    ∃ xs : List Value, (∀ (j : Nat) (v : Value), xs[j]? = some v → w.cell? ⟨rb, o + (off + j), none⟩ = some v) ∧ RelL S w ((cs.drop off).take n) xs ∧ ∀ x ∈ xs, x.oneCell' = true := by
  have hf : ∀ j, j < n → ∃ x, w.cell? ⟨rb, o + (off + j), none⟩ = some x ∧ Rel S w (cs.getD (off + j) .undef) x ∧ x.oneCell' = true := fun j hj => by
    have hlt : off + j < cs.length := by omega
    exact h (off + j) _ (by simp [List.getD, List.getElem?_eq_getElem hlt])
  have hx : ∃ f : Nat → Value, ∀ j, j < n → w.cell? ⟨rb, o + (off + j), none⟩ = some (f j) ∧ Rel S w (cs.getD (off + j) .undef) (f j) ∧ (f j).oneCell' = true := by
    refine ⟨fun j => if hj : j < n then (hf j hj).choose else Go.undef, fun j hj => ?_⟩
    simp only [dif_pos hj]
    exact (hf j hj).choose_spec
  obtain ⟨f, hf⟩ := hx
  refine ⟨(List.range n).map f, ?_, ⟨?_, ?_⟩, ?_⟩
  · intro j v hv
    simp only [List.getElem?_map, Option.map_eq_some_iff] at hv
    obtain ⟨k, hk, rfl⟩ := hv
    obtain ⟨hlt, hk⟩ := List.getElem?_eq_some_iff.1 hk
    simp at hlt hk
    subst hk
    exact (hf j hlt).1
  · simp; omega
  · intro i v x hv hx
    rw [List.getElem?_take] at hv
    split at hv
    · rename_i hi
      rw [List.getElem?_drop] at hv
      simp [hi] at hx
      subst hx
      have := (hf i hi).2.1
      simpa [List.getD, hv] using this
    · cases hv
  · intro x hx
    obtain ⟨j, hj, rfl⟩ := List.mem_map.1 hx
    exact (hf j (List.mem_range.1 hj)).2.2

theorem cell_lt {a : Addr} {v : Value} (h : w.cell? a = some v) : a.block < w.heap.size := by
  rcases Nat.lt_or_ge a.block w.heap.size with h1 | h1
  · exact h1
  · simp [World.cell?, Array.getElem?_eq_none h1] at h

theorem load_below {rb o : Nat} {xs : List Value} (hx : ∀ (j : Nat) (v : Value), xs[j]? = some v → w.cell? ⟨rb, o + j, none⟩ = some v) {w' : World} (b : Below w.heap.size w w') (n : Nat) (hn : n ≤ xs.length) :
    (loadCells ⟨rb, o, none⟩ n).run P w' = .ok (xs.take n).toArray w' := by
  have hl : (xs.take n).length = n := by simp; omega
  have := run_loadCells_list (P := P) w' ⟨rb, o, none⟩ (xs.take n) (fun j v hv => by
    rw [add_none]
    rw [List.getElem?_take] at hv
    split at hv
    · have h1 := hx j v hv
      have hlt := cell_lt h1
      rw [b.cell (p := ⟨rb, o + j, none⟩) hlt]
      exact h1
    · cases hv)
  rwa [hl] at this

/-- What is appended, or copied, loaded. -/
theorem srcH_sound (H : HR S w h) {t2 : TypeId} {size : Nat} {y : V} {b : Value} {m : List (List V)} {c : Prop} (hq : srcH P h t2 size y = some (m, c)) (hc : c) (hy : Rel S w y b) :
    ∃ ys : List Value, (Builtin.lenOf b).run P w = .ok m.length w ∧ (∀ (i : Nat) (e : List V), m[i]? = some e → e.length = size) ∧
      RelL S w m.flatten ys ∧ (∀ x ∈ ys, x.oneCell' = true) ∧ (∃ d, P.underlying t2 = some d ∧ notInt d = true) ∧
      (∀ n w', n ≤ m.length → Below w.heap.size w w' → (Builtin.firstCells size n b).run P w' = .ok (ys.take (n * size)).toArray w') := by
  unfold srcH at hq
  split at hq
  · rename_i e es l off n cap hu
    split at hq
    · rename_i hes
      rw [beq_iff_eq] at hes
      subst hes
      cases hq
      by_cases hn0 : n = 0
      · subst hn0
        have e : ∃ ba, b = .slice ba 0 cap := by cases hy <;> exact ⟨_, rfl⟩
        obtain ⟨ba, rfl⟩ := e
        refine ⟨[], rfl, fun i e h => by simp [chunks] at h, by simpa [chunks] using RelL.nil, fun x hx => (by cases hx), ⟨_, hu, rfl⟩, fun k w' hk b => ?_⟩
        have : k = 0 := by simp [chunks] at hk; omega
        subst this
        cases ba <;> simp [Builtin.firstCells, loadCells, loadCellsFrom]
      have hc := hc.resolve_left hn0
      obtain ⟨h1, h2, h3⟩ := chunks_len es n ((cellsAt h l).drop off) (by simp; omega)
      cases hy with
      | sref _ _ _ _ _ hcap =>
        obtain ⟨xs, x1, x2, x3⟩ := (H.at l).cells (off := off) (n := n * es) hc
        have hxl : xs.length = n * es := by rw [x2.1]; simp; omega
        refine ⟨xs, by rw [h1]; rfl, h2, by rw [h3]; exact x2, x3, ⟨_, hu, rfl⟩, fun k w' hk b => ?_⟩
        rw [h1] at hk
        have hke : k * es ≤ n * es := Nat.mul_le_mul_right _ hk
        have := load_below (P := P) (rb := l) (o := off) (xs := xs) (fun j v hv => by have := x1 j v hv; rwa [Nat.zero_add] at this) b (k * es) (by omega)
        simpa [Builtin.firstCells] using this
      | srefnil _ _ _ ba =>
        refine ⟨[], by rw [h1]; rfl, h2, by rw [h3]; simpa using RelL.nil, fun x hx => (by cases hx), ⟨_, hu, rfl⟩, fun k w' hk b => ?_⟩
        rw [h1] at hk
        have : k = 0 := by omega
        subst this
        cases ba <;> simp [Builtin.firstCells, loadCells, loadCellsFrom]
    · cases hq
  · split at hq
    · rename_i m' hm
      cases hq
      unfold srcQ at hm
      split at hm
      · rename_i e es m' g hu _
        split at hm
        · rename_i hes
          rw [beq_iff_eq] at hes
          subst hes
          cases hm
          rcases slice_parts hy with ⟨rfl, rfl, _⟩ | ⟨rb, o, cap, xs, rfl, hes, hcap, _, hlen, hk, hr⟩
          · refine ⟨[], rfl, fun i e h => by simp at h, .nil, fun x h => (by cases h), ⟨_, hu, rfl⟩, fun k w' hk b => by simp [Builtin.firstCells]⟩
          · refine ⟨xs, rfl, hlen, hr, kept_one hk, ⟨_, hu, rfl⟩, ?_⟩
            intro k w' hk' b
            have hxl : xs.length = m.length * es := by rw [hr.1, flatten_length es m hlen]
            have := load_below (P := P) (rb := rb) (o := o) (xs := xs) (fun j v hv => (hk j v hv).2.1) b (k * es) (by rw [hxl]; exact Nat.mul_le_mul_right _ hk')
            simpa [Builtin.firstCells] using this
        · cases hm
      · rename_i s hu _
        split at hm
        · cases hm
          cases hy
          refine ⟨s.data.toList.map fun c => .int .u8 c.toNat, ?_, ?_, ?_, ?_, ⟨_, hu, rfl⟩, ?_⟩
          · simp [Builtin.lenOf]
          · intro i e he
            simp only [List.getElem?_map, Option.map_eq_some_iff] at he
            obtain ⟨c, _, rfl⟩ := he
            rfl
          · have hfl : (s.data.toList.map fun b => [V.int .u8 b.toNat]).flatten = s.data.toList.map fun b => V.int .u8 b.toNat := by
              induction s.data.toList with
              | nil => rfl
              | cons a l ih => simp [ih]
            rw [hfl]
            refine ⟨by simp, fun i v x hv hx => ?_⟩
            simp only [List.getElem?_map, Option.map_eq_some_iff] at hv hx
            obtain ⟨c, hc, rfl⟩ := hv
            obtain ⟨c', hc', rfl⟩ := hx
            rw [hc] at hc'
            cases hc'
            exact .int _ _
          · intro x hx
            obtain ⟨c, _, rfl⟩ := List.mem_map.1 hx
            rfl
          · intro k w' hk b
            simp only [Builtin.firstCells]
            have : ((s.extract 0 k).data.toList) = s.data.toList.take k := by
              simp [ByteArray.extract, ByteArray.copySlice]
            simp only [Sem.run_pure]
            congr 1
            apply Array.ext'
            simp
        · cases hm
      · cases hm
    · cases hq
/-- What is stored into a block. -/
theorem put_cells (H : HR S w h) {l off : Nat} {new : List V} {ys : List Value} (hl : h l = some (.cells (cellsAt h l))) (hlen : off + new.length ≤ (cellsAt h l).length) (hr : RelL S w new ys) (ho : ∀ v ∈ ys, v.oneCell' = true) :
    ∃ w', (storeCells ⟨l, off, none⟩ ys).run P w = .ok () w' ∧ HR S w' (h.upd l (.cells (wrCells (cellsAt h l) off new))) ∧ Le (fun _ => False) h S w (h.upd l (.cells (wrCells (cellsAt h l) off new))) S w' := by
  obtain ⟨cc, cc', e0, fz, b1, b2, b3, b4, b5, b6, b7⟩ := CellsRel.write (off := off) (H.obs l _ hl) hlen hr ho
  obtain ⟨c', t1, t2'⟩ := run_storeCells (P := P) (rb := l) (o := off) (e := e0) (fz := fz) ys 0 w cc b1 b2 ho (by omega)
  simp only [Nat.add_zero] at t2'
  have : c' = cc' := by apply Array.ext'; rw [t2', b4]
  subst this
  obtain ⟨g1, g2⟩ := heap_write H hl b1 b2 b5 b6 b7
  exact ⟨_, t1, g1, g2⟩

theorem flat_take {size : Nat} : ∀ (m : List (List V)) (n : Nat), (∀ (i : Nat) (e : List V), m[i]? = some e → e.length = size) → (m.take n).flatten = m.flatten.take (n * size)
  | [], n, _ => by simp
  | e :: m, 0, _ => by simp
  | e :: m, n + 1, h => by
    have h0 := h 0 e rfl
    rw [List.take_succ_cons, List.flatten_cons, List.flatten_cons, flat_take m n (fun i e he => h (i + 1) e (by simpa using he)), Nat.add_mul, Nat.one_mul, Nat.add_comm (n * size), ← h0, List.take_length_add_append]

theorem take_len {size : Nat} (m : List (List V)) (n : Nat) (h : ∀ (i : Nat) (e : List V), m[i]? = some e → e.length = size) : (m.take n).flatten.length = min n m.length * size := by
  rw [flatten_length size (m.take n) (fun i e he => by
    rw [List.getElem?_take] at he
    split at he
    · exact h i e he
    · cases he)]
  simp

theorem copy_sound (H : HR S w h) {t t2 : TypeId} {u v : V} {x y : Value} (more : List TypeId) (ty : TypeId) (hu : Rel S w u x) (hv : Rel S w v y) {K : V → Heap → Prop} (hK : copyW P t t2 u v h K) :
    Eff h S w K ((Builtin.copy_ (t :: t2 :: more).toArray ty #[x, y]).run P w) := by
  unfold copyW at hK
  split at hK
  case h_2 => exact hK.elim
  rename_i e ht
  split at hK
  case h_2 => exact hK.elim
  rename_i i hi
  have hs : (Go.sizeOf e).run P w = .ok i.size w := by simp [Go.sizeOf, typeInfo, hi]
  split at hK
  · rename_i m c es l off n cap hm
    split at hK
    case h_2 => exact hK.elim
    rename_i hes
    rw [beq_iff_eq] at hes
    subst hes
    obtain ⟨hc, hsz, hlen, hl, hK⟩ := hK
    obtain ⟨ys, s1, s3, s4, s5, _, s7⟩ := srcH_sound H hm hc hv
    have s7' := s7 (Nat.min m.length n) w (Nat.min_le_left _ _) (.refl _ _)
    have hyt : (ys.take (Nat.min m.length n * i.size)) = ys.take (n * i.size) := by
      have hyl : ys.length = m.length * i.size := by rw [s4.1, flatten_length i.size m s3]
      rcases Nat.le_total m.length n with h1 | h1
      · have : Nat.min m.length n = m.length := Nat.min_eq_left h1
        rw [this, List.take_of_length_le (by omega), List.take_of_length_le (by rw [hyl]; exact Nat.mul_le_mul_right _ h1)]
      · have : Nat.min m.length n = n := Nat.min_eq_right h1
        rw [this]
    have hmin : min n m.length * i.size ≤ n * i.size := Nat.mul_le_mul_right _ (Nat.min_le_left _ _)
    have hput := put_cells (P := P) H (off := off) (new := (m.take n).flatten) (ys := ys.take (n * i.size)) hl (by rw [take_len m n s3]; omega)
      (by rw [flat_take m n s3]; exact s4.take _) (fun v hv => s5 v (List.mem_of_mem_take hv))
    obtain ⟨w', p1, p2, p3⟩ := hput
    cases hu with
    | sref =>
      refine ⟨_, goInt (Nat.min m.length n), w', _, _, ?_, hK, p2, ?_, p3⟩
      · simp only [Builtin.copy_]
        simp [run_underlying' ht, s1, hs, s7', hyt, p1]
      · exact .int _ _
    | srefnil _ _ _ b =>
      have s70 := s7 0 w (Nat.zero_le _) (.refl _ _)
      simp only [Nat.zero_mul, List.take_zero] at s70
      have hh : h.upd l (.cells (wrCells (cellsAt h l) off ((m.take 0).flatten))) = h := by
        funext k
        simp only [Heap.upd]
        split
        · rename_i e; subst e; rw [hl]; simp [wrCells]
        · rfl
      rw [hh] at hK
      refine ⟨_, goInt 0, w, _, _, ?_, hK, H, ?_, .refl _ _ _ _⟩
      · simp only [Builtin.copy_]
        cases b <;> simp [run_underlying' ht, s1, hs, s70, storeCells]
      · have e0 : ((min m.length 0 : Nat) : Int) = 0 := by simp
        rw [e0]
        exact Rel.int (S := S) (w := w) .i64 0
  · rename_i m c es g hm
    obtain ⟨hc, hsz, hK⟩ := hK
    obtain ⟨ys, s1, s3, s4, s5, _, s7⟩ := srcH_sound H hm hc hv
    have s70 := s7 0 w (Nat.zero_le _) (.refl _ _)
    simp only [Nat.zero_mul, List.take_zero] at s70
    rcases slice_parts hu with ⟨_, rfl, _⟩ | ⟨rb, o, cap, xs, rfl, _⟩
    · refine ⟨_, goInt 0, w, _, _, ?_, hK, H, .int _ _, .refl _ _ _ _⟩
      simp only [Builtin.copy_]
      simp [run_underlying' ht, s1, hs, s70]
    · refine ⟨_, goInt 0, w, _, _, ?_, hK, H, .int _ _, .refl _ _ _ _⟩
      simp only [Builtin.copy_]
      simp [run_underlying' ht, s1, hs, s70, storeCells]
  · exact hK.elim

theorem zeros_flat (z : Value) {cs : List V} (hr : RelL S w cs z.cells.toList) (hs : 0 < z.cells.size) (n : Nat) : RelL S w (List.replicate n cs).flatten (Builtin.zeroCells z.cells n).toList := by
  have hl : cs.length = z.cells.size := by have := hr.1; simp at this; omega
  have hfl : ((List.replicate n cs).flatten).length = n * z.cells.size := by simp [hl]
  refine ⟨by rw [zeroCells_length, hfl], fun i v x hv hx => ?_⟩
  have hi : i < n * z.cells.size := by
    have := (List.getElem?_eq_some_iff.1 hv).1
    omega
  have hm : i % z.cells.size < z.cells.size := Nat.mod_lt _ hs
  have hd : i / z.cells.size < n := Nat.div_lt_of_lt_mul (by rw [Nat.mul_comm]; exact hi)
  have h1 := flatten_getElem z.cells.size (List.replicate n cs) (i / z.cells.size) (i % z.cells.size) cs
    (fun j e he => by rw [List.getElem?_replicate] at he; split at he <;> cases he; exact hl)
    (by rw [List.getElem?_replicate, if_pos hd]) hm
  rw [show i / z.cells.size * z.cells.size + i % z.cells.size = i from by have := Nat.div_add_mod i z.cells.size; rw [Nat.mul_comm] at this; omega, hv] at h1
  have h2 : x = z.cells[i % z.cells.size] := by
    simp only [Builtin.zeroCells, Array.toList_map, List.getElem?_map, Option.map_eq_some_iff] at hx
    obtain ⟨k, hk, hx⟩ := hx
    have : k = i := by
      have := (List.getElem?_eq_some_iff.1 hk).2
      simpa using this.symm
    subst this
    rw [getElem!_pos z.cells _ hm] at hx
    exact hx.symm
  subst h2
  exact hr.2 _ v _ h1.symm (by simp [hm])

theorem zeros_one (z : Value) (ho : ∀ y ∈ z.cells.toList, y.oneCell' = true) (hs : 0 < z.cells.size) (n : Nat) : ∀ y ∈ (Builtin.zeroCells z.cells n).toList, y.oneCell' = true := by
  intro y hy
  have hy : ∃ k, k < n * z.cells.size ∧ z.cells[k % z.cells.size]! = y := by simpa [Builtin.zeroCells] using hy
  obtain ⟨k, hk, hy⟩ := hy
  have hk : k % z.cells.size < z.cells.size := Nat.mod_lt _ hs
  rw [getElem!_pos z.cells _ hk] at hy
  exact ho y (by rw [← hy]; simp)

theorem clear_sound (H : HR S w h) {t : TypeId} {u : V} {x : Value} (more : List TypeId) (ty : TypeId) (hu : Rel S w u x) {K : V → Heap → Prop} (hK : clearW P t u h K) :
    Eff h S w K ((Builtin.clear_ (t :: more).toArray ty #[x]).run P w) := by
  unfold clearW at hK
  split at hK
  case h_2 => exact hK.elim
  rename_i e ht
  split at hK
  case h_2 => exact hK.elim
  rename_i i hi
  split at hK
  case h_2 => exact hK.elim
  rename_i z es l off n cap hz
  split at hK
  case h_2 => exact hK.elim
  rename_i hes
  rw [beq_iff_eq] at hes
  subst hes
  obtain ⟨hsz, hlen, hl, hK⟩ := hK
  obtain ⟨i', zv, hi', hzz, hr, h1, hzl, _, _⟩ := zeroV_some (S := S) (w := w) hz
  rw [hi] at hi'
  cases hi'
  have hzr : (zeroValue e).run P w = .ok zv w := by simp [zeroValue, typeInfo, hi, hzz]
  have hzs : zv.cells.size = i.size := by have := hr.1; simp at this; omega
  have hflat := zeros_flat zv hr (by omega) n
  have hlen2 : (List.replicate n z).flatten.length = n * i.size := by simp [hzl]
  obtain ⟨w', p1, p2, p3⟩ := put_cells (P := P) H (off := off) hl (by rw [hlen2]; exact hlen) hflat (zeros_one zv h1 (by omega) n)
  cases hu with
  | sref =>
    rcases Nat.eq_zero_or_pos n with h0 | h0
    · subst h0
      have hh : h.upd l (.cells (wrCells (cellsAt h l) off ((List.replicate 0 z).flatten))) = h := by
        funext k
        simp only [Heap.upd]
        split
        · rename_i e; subst e; rw [hl]; simp [wrCells]
        · rfl
      rw [hh] at hK
      refine ⟨_, .tuple #[], w, _, _, ?_, hK, H, .tup [] [] rfl (by simp), .refl _ _ _ _⟩
      simp [Builtin.clear_, run_underlying' ht]
    · refine ⟨_, .tuple #[], w', _, _, ?_, hK, p2, .tup [] [] rfl (by simp), p3⟩
      obtain ⟨n', rfl⟩ : ∃ n', n = n' + 1 := ⟨n - 1, by omega⟩
      simp [Builtin.clear_, run_underlying' ht, hzr, p1]
  | srefnil _ _ _ b =>
    have hh : h.upd l (.cells (wrCells (cellsAt h l) off ((List.replicate 0 z).flatten))) = h := by
      funext k
      simp only [Heap.upd]
      split
      · rename_i e; subst e; rw [hl]; simp [wrCells]
      · rfl
    rw [hh] at hK
    refine ⟨_, .tuple #[], w, _, _, ?_, hK, H, .tup [] [] rfl (by simp), .refl _ _ _ _⟩
    cases b <;> simp [Builtin.clear_, run_underlying' ht]

theorem made_zero (z : Array Value) (n : Nat) : madeCells z (n * z.size) = Builtin.zeroCells z n := rfl

theorem makeSlice_sound (H : HR S w h) {t : TypeId} {u v : V} {x y : Value} (hu : Rel S w u x) (hv : Rel S w v y) {K : V → Heap → Prop} (hK : makeSliceW P t u v h K) :
    Eff h S w K ((Instr.makeSlice t x y).run P w) := by
  unfold makeSliceW at hK
  split at hK
  case h_2 => exact hK.elim
  rename_i e ht
  split at hK
  case h_2 => exact hK.elim
  rename_i i hi
  split at hK
  case h_2 => exact hK.elim
  rename_i z k1 a k2 b hz hd
  simp only [Bool.and_eq_true, decide_eq_true_eq] at hd
  obtain ⟨hsz, hby⟩ := hd
  obtain ⟨h0, hab, hbm, hK⟩ := hK
  cases hu
  cases hv
  obtain ⟨i', zv, hi', hzz, hr, h1, hzl, _, _⟩ := zeroV_some (S := S) (w := w) hz
  rw [hi] at hi'
  cases hi'
  have hzs : zv.cells.size = i.size := by have := hr.1; simp at this; omega
  have hbm' : b ≤ 4294967296 := by unfold mostLen at hbm; exact hbm
  have hbytes : (i.bytes : Int) * b ≤ 281474976710656 := by
    have h2 : (i.bytes : Int) * b ≤ 4096 * 4294967296 := Int.mul_le_mul (by omega) hbm' (by omega) (by omega)
    omega
  have hrun := run_make (P := P) w t e i zv ht hi hzz k1 k2 a b h0 hab hbytes (by omega)
  rw [← hzs, made_zero] at hrun
  obtain ⟨g1, g2⟩ := heap_new H (cs := (List.replicate b.toNat z).flatten) (c := Builtin.zeroCells zv.cells b.toNat) e (zeros_one zv h1 (by omega) _) (zeros_flat zv hr (by omega) _)
  refine ⟨_, _, _, _, _, hrun, hK _ H.none, g1, .sref _ _ _ _ _ (by omega), g2⟩

/-- A new block with what was there, and what comes to it. -/
theorem fresh_block (H : HR S w h) {e : TypeId} {old new : List V} {xs ys zs : List Value} (hr : RelL S w old xs) (hy : RelL S w new ys)
    (h1 : ∀ x ∈ xs, x.oneCell' = true) (h2 : ∀ x ∈ ys, x.oneCell' = true) (h3 : ∀ x ∈ zs, x.oneCell' = true) :
    ∃ S', HR S' (w.drew.alloc (.cells (xs ++ ys ++ zs).toArray e)) (h.upd w.heap.size (.cells (old ++ new ++ List.replicate zs.length .undef))) ∧
      Le (fun _ => False) h S w (h.upd w.heap.size (.cells (old ++ new ++ List.replicate zs.length .undef))) S' (w.drew.alloc (.cells (xs ++ ys ++ zs).toArray e)) := by
  have bl : Below w.heap.size w w.drew := (Below.refl _ _).drew
  have Hd : HR S w.drew h := H.below bl
  have hone : ∀ x ∈ xs ++ ys ++ zs, x.oneCell' = true := by
    intro x hx
    rcases List.mem_append.1 hx with hx | hx
    · rcases List.mem_append.1 hx with hx | hx
      · exact h1 x hx
      · exact h2 x hx
    · exact h3 x hx
  have hcells : RelL S w.drew (old ++ new ++ List.replicate zs.length .undef) (xs ++ ys ++ zs) := by
    refine RelL.append ((hr.append hy).mono (Ext_below bl)) ⟨by simp, fun j v x hv hx => ?_⟩
    rw [List.getElem?_replicate] at hv
    split at hv
    · cases hv; exact .undef _
    · cases hv
  obtain ⟨g1, g2⟩ := heap_new Hd (c := (xs ++ ys ++ zs).toArray) e hone hcells
  exact ⟨_, g1, Le.trans H (Le.below _ H bl) g2⟩

theorem appendD_sound (H : HR S w h) {t t2 : TypeId} {u v : V} {x y : Value} (more : List TypeId) (ty : TypeId) (hu : Rel S w u x) (hv : Rel S w v y) {K : V → Heap → Prop} (hK : appendD P t t2 u v h K) :
    Eff h S w K ((Builtin.append_ (t :: t2 :: more).toArray ty #[x, y]).run P w) := by
  unfold appendD at hK
  split at hK
  case h_2 => exact hK.elim
  rename_i e ht
  split at hK
  case h_2 => exact hK.elim
  rename_i i hi
  split at hK
  case h_2 => exact hK.elim
  rename_i z m c hd hz hm
  simp only [Bool.and_eq_true, decide_eq_true_eq] at hd
  obtain ⟨hsz, hby⟩ := hd
  obtain ⟨hc, hK⟩ := hK
  obtain ⟨ys, s1, s3, s4, s5, ⟨d, s6, s7⟩, s8⟩ := srcH_sound H hm hc hv
  obtain ⟨zv, hzr, hzs⟩ := run_zero_any hz hi
  have bl : Below w.heap.size w w.drew := (Below.refl _ _).drew
  have hml : m.flatten.length = m.length * i.size := flatten_length i.size m s3
  have hyl : ys.length = m.length * i.size := by rw [s4.1, hml]
  have hall : ∀ w', Below w.heap.size w w' → (Builtin.firstCells i.size m.length y).run P w' = .ok ys.toArray w' := fun w' b => by
    have := s8 m.length w' (Nat.le_refl _) b
    rwa [List.take_of_length_le (by omega)] at this
  have s2w := hall w (.refl _ _)
  have s2d := hall w.drew bl
  have hz1 : ∀ y ∈ zv.cells.toList, y.oneCell' = true := by
    obtain ⟨z2, h1, _, h3, _, _⟩ := run_zeroValue (w := w) S hz
    have : z2 = zv := by
      have := (hzr w).symm.trans h1
      injection this with this
      exact this.symm
    subst this
    exact h3
  split at hK
  · -- it may be written to
    rename_i es l off n cap
    split at hK
    case h_2 => exact hK.elim
    rename_i hes
    rw [beq_iff_eq] at hes
    subst hes
    obtain ⟨hlen, hin, hroom, hK0, hK1⟩ := hK
    -- a new block
    have fresh : ∀ (old : List V) (xs : List Value) (nc : Nat) (b : Option Addr), 0 < m.length → RelL S w old xs → (∀ x ∈ xs, x.oneCell' = true) → cap < n + m.length → n + m.length ≤ nc →
        old = ((cellsAt h l).drop off).take (n * i.size) →
        (Builtin.append_ (t :: t2 :: more).toArray ty #[.slice b n cap, y]).run P w =
          .ok (.slice (some ⟨w.heap.size, 0, none⟩) (n + m.length) nc) (w.drew.alloc (.cells (xs ++ ys ++ (Builtin.zeroCells zv.cells (nc - (n + m.length))).toList).toArray e)) →
        Eff h S w K ((Builtin.append_ (t :: t2 :: more).toArray ty #[.slice b n cap, y]).run P w) := by
      intro old xs nc b hm0 hr ho hcl hn hold hrun
      obtain ⟨S', g1, g2⟩ := fresh_block (e := e) H hr s4 ho s5 (zeros_one zv hz1 (by omega) (nc - (n + m.length)))
      rw [zeroCells_length, hzs, hold] at g1 g2
      have hKK := hK1 hm0 w.heap.size 0 nc _ (.inr ⟨hcl, hn, H.none, rfl, List.replicate ((nc - (n + m.length)) * i.size) .undef, by simp, rfl⟩)
      exact ⟨_, _, _, _, _, hrun, hKK, g1, .sref _ _ _ _ _ hn, g2⟩
    cases hu with
    | srefnil _ _ _ b =>
      obtain ⟨r1, r2⟩ := append_run (P := P) (w := w) (base := b) (n := 0) (cap := 0) (b := y) (m := m.length) (ys := ys) (z := zv) ty more ht s6 s7 hi hby s1 s2w (hzr w) (by simpa using hlen) (Nat.le_refl _)
      by_cases hm0 : m = []
      · subst hm0
        have : ys = [] := List.length_eq_zero_iff.1 (by simpa using hyl)
        subst this
        have r1 := r1 (by simp)
        refine ⟨_, .slice b 0 0, w, _, _, ?_, hK0 rfl, H, .srefnil _ _ _ _, .refl _ _ _ _⟩
        rw [r1]
        cases b <;> simp [storeCells]
      · have hpos : 0 < m.length := List.length_pos_iff.2 hm0
        obtain ⟨nc, k1, k2⟩ := r2 (by omega) [] (by
          cases b with
          | none => simp [Builtin.firstCells]
          | some b => simp [Builtin.firstCells, loadCells, loadCellsFrom]) s2d (hzr _)
        exact fresh [] [] nc b hpos .nil (fun x hx => by cases hx) (by omega) k1 (by simp) k2
    | sref _ _ _ _ _ hcap =>
      obtain ⟨r1, r2⟩ := append_run (P := P) (w := w) (base := some ⟨l, off, none⟩) (n := n) (cap := cap) (b := y) (m := m.length) (ys := ys) (z := zv) ty more ht s6 s7 hi hby s1 s2w (hzr w) hlen hcap
      by_cases hm0 : m = []
      · subst hm0
        have : ys = [] := List.length_eq_zero_iff.1 (by simpa using hyl)
        subst this
        have r1 := r1 (by simpa using hcap)
        refine ⟨_, .slice (some ⟨l, off, none⟩) n cap, w, _, _, ?_, hK0 rfl, H, .sref _ _ _ _ _ hcap, .refl _ _ _ _⟩
        rw [r1]
        simp [storeCells]
      · have hpos : 0 < m.length := List.length_pos_iff.2 hm0
        have hroom := hroom hpos
        by_cases hle : n + m.length ≤ cap
        · have hmul : n * i.size + m.length * i.size ≤ cap * i.size := by rw [← Nat.add_mul]; exact Nat.mul_le_mul_right _ hle
          have hpos2 : 0 < m.length * i.size := Nat.mul_pos hpos hsz
          have hl := cellsAt_some' (h := h) (l := l) (n := off + cap * i.size) (by omega) hroom
          obtain ⟨w', p1, p2, p3⟩ := put_cells (P := P) H (off := off + n * i.size) hl (by rw [hml]; omega) s4 s5
          refine ⟨_, .slice (some ⟨l, off, none⟩) (n + m.length) cap, _, _, _, ?_, hK1 hpos l off cap _ (.inl ⟨hle, rfl, rfl, rfl, rfl⟩), p2, .sref _ _ _ _ _ hle, p3⟩
          rw [r1 hle]
          simp only [add_none]
          rw [p1]
          rfl
        · have hmul : n * i.size ≤ cap * i.size := Nat.mul_le_mul_right _ hcap
          obtain ⟨xs, x1, x2, x3⟩ := (H.at l).cells (off := off) (n := n * i.size) (by omega)
          have hxl : xs.length = n * i.size := by rw [x2.1]; simp; omega
          have hld := load_below (P := P) (rb := l) (o := off) (xs := xs) (fun j v hv => by have := x1 j v hv; rwa [Nat.zero_add] at this) bl (n * i.size) (by omega)
          rw [List.take_of_length_le (by omega)] at hld
          obtain ⟨nc, k1, k2⟩ := r2 (by omega) xs (by simpa [Builtin.firstCells] using hld) s2d (hzr _)
          exact fresh _ xs nc _ hpos x2 x3 (by omega) k1 rfl k2
  · -- a value
    rename_i es l
    split at hK
    case h_2 => exact hK.elim
    rename_i hes
    rw [beq_iff_eq] at hes
    subst hes
    obtain ⟨hlen, hK0, hK1⟩ := hK
    have key : ∀ (b : Option Addr) (xs : List Value), RelL S w l.flatten xs → (∀ x ∈ xs, x.oneCell' = true) → Rel S w (.sl i.size l .full) (.slice b l.length l.length) →
        (∀ w', Below w.heap.size w w' → (Builtin.firstCells i.size l.length (.slice b l.length l.length)).run P w' = .ok xs.toArray w') →
        Eff h S w K ((Builtin.append_ (t :: t2 :: more).toArray ty #[.slice b l.length l.length, y]).run P w) := by
      intro b xs hr ho hrel hload
      obtain ⟨r1, r2⟩ := append_run (P := P) (w := w) (base := b) (n := l.length) (cap := l.length) (b := y) (m := m.length) (ys := ys) (z := zv) ty more ht s6 s7 hi hby s1 s2w (hzr w) hlen (Nat.le_refl _)
      by_cases hm0 : m = []
      · subst hm0
        have : ys = [] := List.length_eq_zero_iff.1 (by simpa using hyl)
        subst this
        have r1 := r1 (by simp)
        refine ⟨_, .slice b l.length l.length, w, _, _, ?_, hK0 rfl, H, hrel, .refl _ _ _ _⟩
        rw [r1]
        cases b <;> simp [storeCells]
      · have hpos : 0 < m.length := List.length_pos_iff.2 hm0
        obtain ⟨nc, k1, k2⟩ := r2 (by omega) xs (hload _ bl) s2d (hzr _)
        obtain ⟨S', g1, g2⟩ := fresh_block (e := e) H hr s4 ho s5 (zeros_one zv hz1 (by omega) (nc - (l.length + m.length)))
        rw [zeroCells_length, hzs, ← List.flatten_append] at g1 g2
        exact ⟨_, _, _, _, _, k2, hK1 hpos w.heap.size nc _ H.none k1 (by simp), g1, .sref _ _ _ _ _ k1, g2⟩
    rcases slice_parts hu with ⟨rfl, rfl, _⟩ | ⟨rb, o, cap, xs, rfl, _, _, hcl, hlen2, hk, hr⟩
    · exact key none [] .nil (fun x hx => by cases hx) hu (fun w' _ => by simp [Builtin.firstCells])
    · have : cap = l.length := hcl
      subst this
      refine key _ xs hr (kept_one hk) hu fun w' b => ?_
      have hxl : xs.length = l.length * i.size := by rw [hr.1, flatten_length i.size l hlen2]
      have := load_below (P := P) (rb := rb) (o := o) (xs := xs) (fun j v hv => (hk j v hv).2.1) b (l.length * i.size) (by omega)
      rw [List.take_of_length_le (by omega)] at this
      simpa [Builtin.firstCells] using this
  · exact hK.elim

/-- A new slice with its elements. -/
theorem newSlice_sound (H : HR S w h) (t : TypeId) (n : Nat) (parts : List (Nat × V)) (reals : List (Nat × Value)) (hl : reals.length = parts.length)
    (hr : ∀ (i : Nat) (p : Nat × V) (r : Nat × Value), parts[i]? = some p → reals[i]? = some r → r.1 = p.1 ∧ TmRel S w lm p.2 r.2) {K : V → Heap → Prop}
    (hK : match buildSliceQ P t n parts with | .chk c (.sl es l _) => c ∧ ∀ k, h k = none → K (.sref es k 0 l.length l.length) (h.upd k (.cells l.flatten)) | _ => False) :
    Eff h S w K ((Instr.buildSlice t n reals.toArray).run P w) := by
  split at hK
  · rename_i c es l g hq
    obtain ⟨hc, hK⟩ := hK
    obtain ⟨e, es', l', xs, he, hrun, hes, hln, b2, b3, b4⟩ := buildSlice_run (S := S) (w := w) (lm := lm) t n parts reals hl hr hq hc
    cases he
    obtain ⟨g1, g2⟩ := heap_new H (c := xs.toArray) e b4 b3
    have hK := hK _ H.none
    rw [hln] at hK
    exact ⟨_, _, _, _, _, hrun, hK, g1, .sref _ _ _ _ _ (Nat.le_refl _), g2⟩
  · exact hK.elim

/-- Bytes of a text that the program writes out. -/
theorem freeze_sound (H : HR S w h) {s e : TypeId} {es l o n c : Nat} {x : Value} (hs : P.underlying s = some (.slice e)) (he : P.underlying e = some (.int .u8)) (hn : 0 < n) (hl : h l = some (.cells (cellsAt h l)))
    (hx : Rel S w (.sref es l o n c) x) {K : V → Heap → Prop} (hK : K (.sref es l o n c) h) : Eff h S w K ((convert s s x).run P w) := by
  have same : h.upd l (.cells (cellsAt h l)) = h := by
    funext k
    simp only [Heap.upd]
    split
    · rename_i e; subst e; rw [hl]
    · rfl
  cases hx with
  | srefnil _ _ _ b => omega
  | sref _ _ _ _ _ hcap =>
    obtain ⟨ho, xs, ⟨e0, fz, hb, hf⟩, hr, h1⟩ := H.obs l _ hl
    obtain ⟨lo, hi⟩ := fz
    have hF : Free (if lo == hi then (xs.toArray.size, xs.toArray.size + 1) else (min lo xs.toArray.size, max hi (xs.toArray.size + 1))) xs.toArray.size := by
      rcases hf with hf | hf
      · simp only at hf
        subst hf
        simp [Free]
      · simp only at hf
        split
        · exact .inr (Nat.le_refl _)
        · right
          simp only
          omega
    have hw : w.freeze ⟨l, xs.toArray.size, none⟩ 1 = setRow w l xs.toArray e0 (if lo == hi then (xs.toArray.size, xs.toArray.size + 1) else (min lo xs.toArray.size, max hi (xs.toArray.size + 1))) := by
      unfold World.freeze setRow
      rw [if_neg (by omega)]
      congr 1
      have hlt := (Array.getElem?_eq_some_iff.1 hb).1
      apply Array.ext_getElem?
      intro k
      rw [Array.getElem?_modify, Array.getElem?_setIfInBounds]
      by_cases hk : l = k
      · subst hk
        have hb2 : w.heap[l] = .cells xs.toArray e0 (lo, hi) := (Array.getElem?_eq_some_iff.1 hb).2
        simp [hlt, hb2]
      · simp [hk]
    obtain ⟨g1, g2⟩ := heap_put (cs' := cellsAt h l) (c := xs.toArray) (c' := xs.toArray) (e := e0) H hl hF rfl h1 hr
    rw [same] at g1 g2
    refine ⟨_, .slice (some ⟨l, o, none⟩) n c, _, _, _, ?_, hK, g1, .sref _ _ _ _ _ hcap, g2⟩
    rw [← hw]
    have hsh : w.shape? l = some (e0, xs.toArray.size) := by simp [World.shape?, hb]
    simp [convert, run_underlying' hs, run_underlying' he, markStringish, hsh]

theorem eqIn_sl (d : Nat) {t e : TypeId} (ht : P.underlying t = some (.slice e)) (b0 : Option Addr) (n c : Nat) : (Op.equalIn (d + 1) t (.slice b0 n c) (.slice none 0 0)).run P w = .ok b0.isNone w := by
  cases b0 <;> simp [Op.equalIn, run_underlying' ht]

theorem slNil_sound {t e : TypeId} (ht : P.underlying t = some (.slice e)) (no : Bool) (b0 : Option Addr) (n c : Nat) (y : Operand) :
    ((do eqGuard (eqOp no) t y (.const (.slice none 0 0)) (.slice b0 n c) (.slice none 0 0); binOp (eqOp no) t (.slice b0 n c) (.slice none 0 0)) : Sem Value).run P w = .ok (.bool (neg no b0.isNone)) w := by
  have h : (Op.equal t (.slice b0 n c) (.slice none 0 0)).run P w = .ok b0.isNone w := eqIn_sl _ ht b0 n c
  have hg : (eqGuard (eqOp no) t y (.const (.slice none 0 0)) (.slice b0 n c) (.slice none 0 0)).run P w = .ok () w := by cases no <;> simp [eqGuard, eqOp]
  cases no
  · simp only [Sem.run_bind, hg, Result.andThen_ok]; exact run_eql t _ _ _ h (by simp) (by simp) (by simp) (by simp)
  · simp only [Sem.run_bind, hg, Result.andThen_ok]; exact run_neq t _ _ _ h (by simp) (by simp) (by simp) (by simp)
end
end Jb
end

section
/- Maps: new ones, and entries. -/
namespace Jb
open Go Go.RowKit

section
variable {P : Program} {S : Sim} {w : World} {h : Heap} {lm : Nat → Option Nat}

theorem newMap_sound (H : HR S w h) (t : TypeId) {K : V → Heap → Prop} (hK : ∀ k, h k = none → K (.map (some k)) (h.upd k (.obj (.map [])))) : Eff h S w K ((Instr.makeMap t none).run P w) := by
  obtain ⟨g1, g2⟩ := obj_new H (.map #[] 0) (.map []) ⟨#[], 0, rfl, rfl, fun i k v e h => by simp at h⟩
  exact ⟨_, .map (some w.heap.size), _, _, _, rfl, hK _ H.none, g1, .map _, g2⟩

theorem bytes_beq_symm {a b : ByteArray} (h : (a == b) = true) : (b == a) = true := by
  obtain ⟨a⟩ := a
  obtain ⟨b⟩ := b
  have h : (a == b) = true := h
  have : a = b := by simpa using h
  subst this
  exact h

theorem sameNow_eq {d : TypeDesc} {x y : Value} (h : Instr.sameNow d x y = some true) : Instr.sameBits 10000 y x = true := by
  unfold Instr.sameNow at h
  split at h
  · split at h
    · rename_i hk
      subst hk
      simp at h
      subst h
      simp [Instr.sameBits]
    · cases h
  · rename_i a b
    have h : (a == b) = true := by simpa using h
    simpa [Instr.sameBits] using bytes_beq_symm h
  · rename_i a b
    have : a = b := by simpa using h
    subst this
    simp [Instr.sameBits]
  · cases h

theorem upd_sound {k u : V} {x : Value} {d : TypeDesc} (hk : Rel S w k x) (hd : fitK d k = true) :
    ∀ (es : List (V × V)) (ents : List MapEntry) (i : Nat) (es' : List (V × V)), ents.length = es.length →
      (∀ (j : Nat) (a b : V) (e : MapEntry), es[j]? = some (a, b) → ents[j]? = some e → Rel S w a e.key ∧ Rel S w b e.val) → updV k u es = some es' →
      (Instr.findNow d x ents i = some none ∧ es' = es ++ [(k, u)]) ∨
      (∃ j e, Instr.findNow d x ents i = some (some (i + j, e.val)) ∧ ents[j]? = some e ∧ Instr.sameNow d x e.key = some true ∧ es' = es.set j (k, u))
  | [], ents, i, es', hl, _, hf => by
    have : ents = [] := List.length_eq_zero_iff.1 hl
    subst this
    simp only [updV] at hf
    cases hf
    exact .inl ⟨rfl, rfl⟩
  | (a, b) :: es, ents, i, es', hl, hr, hf => by
    cases ents with
    | nil => simp at hl
    | cons e ents =>
      have h0 := hr 0 a b e rfl rfl
      simp only [updV] at hf
      split at hf
      · rename_i he
        cases hf
        have := keyEq_sound hk h0.1 he hd
        exact .inr ⟨0, e, by rw [Instr.findNow, this]; rfl, rfl, this, rfl⟩
      · rename_i he
        have hne := keyEq_sound hk h0.1 he hd
        split at hf
        · rename_i l hl'
          cases hf
          rcases upd_sound hk hd es ents (i + 1) l (by simpa using hl) (fun j a b e h1 h2 => hr (j + 1) a b e (by simpa using h1) (by simpa using h2)) hl' with ⟨g1, g2⟩ | ⟨j, e', g1, g2, g3, g4⟩
          · exact .inl ⟨by rw [Instr.findNow, hne]; exact g1, by rw [g2]; rfl⟩
          · exact .inr ⟨j + 1, e', by rw [Instr.findNow, hne]; simp only; rw [g1]; congr 3; omega, by simpa using g2, g3, by rw [g4]; rfl⟩
        · cases hf
      · cases hf

theorem mapUpdate_sound (H : HR S w h) (t : TypeId) {m k v : V} {x y z : Value} (hm : Rel S w m x) (hk : TmRel S w lm k y) (hv : TmRel S w lm v z) {K : Heap → Prop} (hK : mapUpdateW P t m k v h K) :
    ∃ w' h', (Instr.mapUpdate t x y z).run P w = .ok () w' ∧ K h' ∧ HR S w' h' ∧ Le (fun _ => False) h S w h' S w' := by
  unfold mapUpdateW at hK
  split at hK
  case h_2 => exact hK.elim
  rename_i kt vt r ht
  split at hK
  case h_2 => exact hK.elim
  rename_i es hkt hr hp
  split at hK
  case h_2 => exact hK.elim
  rename_i es' hu
  cases hm
  obtain ⟨d, hud, hd⟩ := keyT_some hkt
  have hkr : Rel S w k y := by
    cases k <;> first | exact hk | (cases d <;> simp [fitK] at hd)
  have hvr : Rel S w v z := hv.rel hp
  obtain ⟨ho, o, hob, ents, clock, rfl, hs, hre⟩ := H.obs r _ hr
  have hl : ents.toList.length = es.length := by simpa using hs
  have hput : ∀ (es2 : Array MapEntry) (c2 : Nat), { w with heap := w.heap.setIfInBounds r (.map es2 c2) } = w.putObj r (.map es2 c2) := fun es2 c2 => rfl
  rcases upd_sound hkr hd es ents.toList 0 es' hl (fun j a b e h1 h2 => hre j a b e h1 (by rw [← Array.getElem?_toList]; exact h2)) hu with ⟨g1, g2⟩ | ⟨j, e, g1, g2, g3, g4⟩
  · have hq : OQRel S w (.map es') (.map (ents.push { key := y, val := z, born := clock }) (clock + 1)) := by
      refine ⟨_, _, rfl, by rw [g2]; simp [hs], fun i a b e h1 h2 => ?_⟩
      rw [g2] at h1
      by_cases hi : i < es.length
      · rw [List.getElem?_append_left hi] at h1
        rw [Array.getElem?_push, if_neg (by omega)] at h2
        exact hre i a b e h1 h2
      · rw [List.getElem?_append_right (by omega)] at h1
        have : i = es.length := by
          have := (List.getElem?_eq_some_iff.1 h1).1
          simp at this; omega
        subst this
        simp at h1
        rw [Array.getElem?_push, if_pos hs.symm] at h2
        cases h2
        obtain ⟨rfl, rfl⟩ := h1
        exact ⟨hkr, hvr⟩
    obtain ⟨q1, q2⟩ := obj_turn H hr _ hq
    refine ⟨_, _, ?_, hK, q1, q2⟩
    simp only [Instr.mapUpdate, Sem.run_bind, run_underlying' ht, Result.andThen_ok, MapKept.run_getObj_map hob, run_checkKey _ hkt, Instr.findKey, run_underlying' hud, g1, Sem.run_pure]
    rw [MapKept.run_setObj_map _ hob]
    rfl
  · rw [Nat.zero_add] at g1
    have hge : ents[j]? = some e := by rw [← Array.getElem?_toList]; exact g2
    have hq : OQRel S w (.map es') (.map (ents.modify j fun e => { e with key := y, val := z }) clock) := by
      refine ⟨_, _, rfl, by rw [g4]; simp [hs], fun i a b e' h1 h2 => ?_⟩
      rw [g4, List.getElem?_set] at h1
      rw [Array.getElem?_modify] at h2
      by_cases hi : j = i
      · rw [if_pos hi] at h1 h2
        split at h1
        · cases h1
          obtain ⟨e0, _, rfl⟩ := Option.map_eq_some_iff.1 h2
          exact ⟨hkr, hvr⟩
        · cases h1
      · rw [if_neg hi] at h1 h2
        exact hre i a b e' h1 h2
    obtain ⟨q1, q2⟩ := obj_turn H hr _ hq
    refine ⟨_, _, ?_, hK, q1, q2⟩
    have hsb := sameNow_eq g3
    simp only [Instr.mapUpdate, Sem.run_bind, run_underlying' ht, Result.andThen_ok, MapKept.run_getObj_map hob, run_checkKey _ hkt, Instr.findKey, run_underlying' hud, g1, Sem.run_pure, hge, Option.map_some, Option.getD_some, Instr.keyThatStays,
      Sem.run_ite, hsb, if_true]
    rw [MapKept.run_setObj_map _ hob]
    rfl
end
end Jb
end

section
/- An operation with an effect; any operation under its guard. -/
namespace Jb
open Go Go.RowKit

section
variable {P : Program} {S : Sim} {w : World} {h : Heap} {lm : Nat → Option Nat} {B : Nat} {fr : Fr} {a : Act}

theorem shV_need {t : TypeId} {r : V} {K : V → Prop} (h : (shV P 0 t True r).need K) : K r := by
  obtain ⟨c, v, e, hc⟩ := shV_same P 0 t True r
  rw [e] at h
  have := (hc h.1).2.1
  rw [← this]
  exact h.2

theorem shape1_same {mt : Nat} {t : TypeId} {r : V} {K : V → Prop} (h : shape1 P mt t r K) : K r := by
  unfold shape1 at h
  split at h
  · unfold ptrK at h
    split at h <;> first | exact h | exact h.elim
  · rw [isRef_eq h.1]; exact h.2
  · have h1 := h.1
    have : r.deLp = r := by cases r <;> first | rfl | cases h1
    rw [← this]; exact h.2
  · rw [← deLp_same h.1]; exact h.2
  · exact shV_need h

theorem shapes_same {mt : Nat} : ∀ {ts : List TypeId} {i : Nat} {vs : List V} {K : List V → Prop}, vs.length = i + ts.length → shapes P mt ts i vs K → K (vs.drop i)
  | [], i, vs, K, hl, h => by
    have : vs.drop i = [] := List.drop_eq_nil_of_le (by simp at hl; omega)
    rw [this]; exact h
  | t :: ts, i, vs, K, hl, h => by
    have h1 := shape1_same (K := fun v => shapes P mt ts (i + 1) vs fun l => K (v :: l)) h
    have h2 := shapes_same (K := fun l => K (vs.getD i .undef :: l)) (by simp at hl; omega) h1
    have hi : i < vs.length := by simp at hl; omega
    rw [List.drop_eq_getElem_cons hi]
    simpa [List.getD, List.getElem?_eq_getElem hi] using h2

theorem shape_same {mt : Nat} {t : TypeId} {r : V} {K : V → Prop} (h : shapeW P mt t r K) : K r := by
  unfold shapeW at h
  split at h
  · rename_i ts _
    obtain ⟨h1, h2⟩ := h
    cases r <;> try cases h1
    rename_i vs
    have hl : vs.length = 0 + ts.toList.length := by rw [Nat.zero_add]; exact Nat.eq_of_beq_eq_true h1
    have := shapes_same (P := P) (K := fun vs => K (.tup vs)) hl h2
    simpa using this
  · exact shape1_same h

/-- The fence that lets all in; 'ro': within a round of a range over a function. -/
def FW (ro : Option Nat) : Fence := { Fence.wide with round := ro }
theorem FW.deep {ro : Option Nat} {n : Nat} : (FW ro).depth.isSome = true → 1 ≤ n := fun h => by cases h

theorem wp_value {ro : Option Nat} {o : Oper} (hd : ∀ c, o.op ≠ .defer c) {next : Act → World → Prop} {Q : Exit → Act → World → Prop} {x : Value} {w' : World} (hr : (execOp a.eval o).run P w = .ok (.value x) w') (h : next (a.put o.dst x) w') : o.wpIn (FW ro) 0 P a w next Q := by
  refine ⟨fun _ _ => trivial, ?_⟩
  rw [Oper.semAt_eq _ _ _ hd, hr]; exact h

theorem wp_skip' {ro : Option Nat} {o : Oper} (hd : ∀ c, o.op ≠ .defer c) {next : Act → World → Prop} {Q : Exit → Act → World → Prop} {w' : World} (hr : (execOp a.eval o).run P w = .ok .skip w') (h : next (a.put o.dst Go.undef) w') : o.wpIn (FW ro) 0 P a w next Q := by
  refine ⟨fun _ _ => trivial, ?_⟩
  rw [Oper.semAt_eq _ _ _ hd, hr]; exact h

theorem run_box {t : TypeId} {x : Value} : (Instr.box t x).run P w = .ok (.pointer (some ⟨w.heap.size, 0, none⟩)) (w.alloc (.cells x.cells t)) := by
  simp [Instr.box, newVar, alloc_run]

theorem run_alloc' {t : TypeId} {z : Value} (hz : (zeroValue t).run P w = .ok z w) : (Instr.alloc t true (.tuple #[])).run P w = .ok (.pointer (some ⟨w.heap.size, 0, none⟩)) (w.alloc (.cells z.cells t)) := by
  simp [Instr.alloc, hz, newVar, alloc_run]

theorem callFunc_enters {k : FuncId} (he : enters P k = true) (xs : Array Value) : (callFunc k xs).run P w = .ok (.enter k xs) w := by
  unfold enters at he
  split at he
  · rename_i fn hf
    simp only [Bool.and_eq_true] at he
    have hn : (fn.name == "runtime.NumGoroutine") = false := by simpa using he.2
    have hb : fn.body.isNone = false := by cases hb : fn.body <;> simp_all
    simp only [callFunc, Sem.run_bind, run_program, Result.andThen_ok, hf, hn, hb, Bool.false_eq_true, if_false]
    rfl
  · cases he

theorem storeW_tm {t : TypeId} {u v : V} {K : Fr → Heap → Prop} (hK : storeW P t u v fr h K) : storeW P t u v fr h (fun fr' h' => K fr' h' ∧ fr'.tm = fr.tm) := by
  revert hK
  unfold storeW
  cases okT P t <;> cases P.cellsOf t <;> simp only <;> try exact id
  rename_i n
  cases cellsQ (n + 1) v with
  | none => exact id
  | some p =>
    obtain ⟨new, c⟩ := p
    cases u <;> simp only <;> first | exact id | exact fun h => ⟨h.1, h.2.1, h.2.2, trivial⟩

theorem srcH_plain {t2 : TypeId} {size : Nat} {v : V} {r : List (List V) × Prop} (h1 : srcH P h t2 size v = some r) : v.plain = true := by
  unfold srcH at h1
  split at h1
  · rfl
  · split at h1
    · rename_i hm
      unfold srcQ at hm
      split at hm <;> first | rfl | cases hm
    · cases h1

theorem appendX_plain {mt : Nat} {t t2 : TypeId} {u v : V} {K : V → Heap → Prop} (hK : appendX P mt t t2 u v h K) : u.plain = true ∧ v.plain = true := by
  unfold appendX at hK
  split at hK
  · unfold appendW at hK
    split at hK <;> try exact hK.elim
    split at hK <;> try exact hK.elim
    split at hK <;> try exact hK.elim
    rename_i hm
    refine ⟨rfl, ?_⟩
    unfold srcQ at hm
    split at hm <;> first | rfl | cases hm
  · unfold appendM at hK
    split at hK <;> try exact hK.elim
    split at hK <;> try exact hK.elim
    split at hK <;> try exact hK.elim
    rename_i hm
    refine ⟨rfl, ?_⟩
    unfold srcQ at hm
    split at hm <;> first | rfl | cases hm
  · unfold appendD at hK
    split at hK <;> try exact hK.elim
    split at hK <;> try exact hK.elim
    split at hK <;> try exact hK.elim
    rename_i hm
    refine ⟨?_, srcH_plain hm⟩
    have hK := hK.2
    split at hK <;> first | rfl | exact hK.elim

theorem appendX_sound {mt : Nat} (H : HR S w h) {t t2 : TypeId} {u v : V} {x y : Value} (more : List TypeId) (ty : TypeId) (hu : Rel S w u x) (hv : Rel S w v y) {K : V → Heap → Prop} (hK : appendX P mt t t2 u v h K) :
    Eff h S w K ((Builtin.append_ (t :: t2 :: more).toArray ty #[x, y]).run P w) := by
  unfold appendX at hK
  split at hK
  · exact append_sound H more ty hu hv hK
  · exact appendM_sound H more ty hu hv hK
  · exact appendD_sound H more ty hu hv hK

theorem copyW_plain {t t2 : TypeId} {u v : V} {K : V → Heap → Prop} (hK : copyW P t t2 u v h K) : u.plain = true ∧ v.plain = true := by
  unfold copyW at hK
  split at hK <;> try exact hK.elim
  split at hK <;> try exact hK.elim
  split at hK
  · rename_i hm
    exact ⟨rfl, srcH_plain hm⟩
  · rename_i hm
    exact ⟨rfl, srcH_plain hm⟩
  · exact hK.elim

theorem lenM_sound (H : HR S w h) {t : TypeId} {u : V} {x : Value} (more : List TypeId) (ty : TypeId) (hu : TmRel S w lm u x) {K : V → Heap → Prop} (hK : lenMW P t u h K) :
    Eff h S w K ((Builtin.len_ (t :: more).toArray ty #[x]).run P w) := by
  unfold lenMW at hK
  split at hK
  case h_2 => exact hK.elim
  rename_i kt e es ht hm
  cases u <;> simp only [mapAt] at hm <;> try cases hm
  rename_i r
  cases (show Rel S w (.map r) x from hu)
  cases r with
  | none =>
    cases hm
    exact ⟨_, .int .i64 0, w, h, S, by simp [Builtin.len_, run_underlying' ht, goInt], hK, H, Rel.int _ _, Le.refl _ _ _ _⟩
  | some r =>
    simp only at hm
    split at hm
    · rename_i es' hh
      cases hm
      obtain ⟨_, o, ho, ents, clock, rfl, hs, hr⟩ := H.obs r _ hh
      refine ⟨_, .int .i64 es.length, w, h, S, ?_, hK, H, Rel.int _ _, Le.refl _ _ _ _⟩
      simp [Builtin.len_, run_underlying' ht, goInt, MapKept.run_getObj_map ho, hs]
    · cases hm

theorem clearW_plain {t : TypeId} {u : V} {K : V → Heap → Prop} (hK : clearW P t u h K) : u.plain = true := by
  unfold clearW at hK
  split at hK <;> try exact hK.elim
  split at hK <;> try exact hK.elim
  split at hK <;> first | rfl | exact hK.elim

theorem makeSliceW_plain {t : TypeId} {u v : V} {K : V → Heap → Prop} (hK : makeSliceW P t u v h K) : u.plain = true ∧ v.plain = true := by
  unfold makeSliceW at hK
  split at hK <;> try exact hK.elim
  split at hK <;> try exact hK.elim
  split at hK <;> first | exact ⟨rfl, rfl⟩ | exact hK.elim

theorem mapUpdateW_plain {t : TypeId} {u k v : V} {K : Heap → Prop} (hK : mapUpdateW P t u k v h K) : u.plain = true := by
  unfold mapUpdateW at hK
  split at hK <;> first | rfl | exact hK.elim

theorem typed_rel {ρ : Operand → V} (t : TypeId) {x : Operand} (hx : TmRel S w lm (ρ x) (a.eval x)) : TmRel S w lm (typed P ρ t x) (a.eval x) := by
  unfold typed
  split
  · split
    · exact Rel.slnil _ _ (by simp)
    · exact Rel.undef _
  · exact hx

theorem argsV_rel {ρ : Operand → V} : ∀ (ts : List TypeId) (l : List Operand), (∀ x ∈ l, TmRel S w lm (ρ x) (a.eval x)) →
    (argsV P ρ ts l).length = l.length ∧ ∀ (i : Nat) (v : V) (x : Value), (argsV P ρ ts l)[i]? = some v → (l.map a.eval)[i]? = some x → TmRel S w lm v x
  | ts, [], _ => ⟨by cases ts <;> rfl, fun i v x h => by cases ts <;> simp [argsV] at h⟩
  | [], x :: l, h => by
    obtain ⟨h1, h2⟩ := argsV_rel [] l fun y hy => h y (by simp [hy])
    refine ⟨by simp [argsV, h1], fun i v y hv hy => ?_⟩
    cases i with
    | zero => simp [argsV] at hv hy; subst hv; subst hy; exact h x (by simp)
    | succ i => simp [argsV] at hv; exact h2 i v y hv (by simpa using hy)
  | t :: ts, x :: l, h => by
    obtain ⟨h1, h2⟩ := argsV_rel ts l fun y hy => h y (by simp [hy])
    refine ⟨by simp [argsV, h1], fun i v y hv hy => ?_⟩
    cases i with
    | zero => simp [argsV] at hv hy; subst hv; subst hy; exact typed_rel t (h x (by simp))
    | succ i => simp [argsV] at hv; exact h2 i v y hv (by simpa using hy)

theorem wp_eff {ro : Option Nat} {o : Oper} (hd : ∀ c, o.op ≠ .defer c) {next : Act → World → Prop} {Q : Exit → Act → World → Prop} {K : V → Heap → Prop} {r : Result Value} (hr : (execOp a.eval o).run P w = r.andThen fun x w' => .ok (.value x) w')
    (E : Eff h S w K r) (hn : ∀ v z w' h' S', K v h' → HR S' w' h' → Rel S' w' v z → Le (fun _ => False) h S w h' S' w' → next (a.put o.dst z) w') : o.wpIn (FW ro) 0 P a w next Q := by
  obtain ⟨v, z, w', h', S', e, hk, H', hrel, L'⟩ := E
  exact wp_value hd (by rw [hr, e]; rfl) (hn v z w' h' S' hk H' hrel L')

/-- What is asked of whatever stands behind. -/
def Next (B : Nat) (h : Heap) (S : Sim) (w : World) (lm : Nat → Option Nat) (a : Act) (K : V → Fr → Heap → Prop) (fr : Fr) (dst : Option Tmp) (next : Act → World → Prop) : Prop :=
  ∀ S' w' h' fr' v x, K v fr' h' → HR S' w' h' → FR B S' w' h' fr' lm a → Rel S' w' v x → Le (fun rb => B ≤ rb) h S w h' S' w' → fr'.tm = fr.tm → next (a.put dst x) w'

theorem effW_sound {ro : Option Nat} {mt : Nat} (H : HR S w h) (F : FR B S w h fr lm a) (o : Oper) (ρ : Operand → V) (hρ : ∀ x ∈ o.op.operands.toList, TmRel S w lm (ρ x) (a.eval x)) {K : V → Fr → Heap → Prop}
    (hK : effW P mt o.op o.type ρ fr h K) (next : Act → World → Prop) (Q : Exit → Act → World → Prop) (hn : Next B h S w lm a K fr o.dst next) : o.wpIn (FW ro) 0 P a w next Q := by
  obtain ⟨dst, op, type, pos, after, guard⟩ := o
  simp only at hρ hK hn
  unfold effW at hK
  split at hK
  · -- alloc
    rename_i t
    split at hK
    · rename_i cs hz
      obtain ⟨z, hzr, hr, h1, _, _⟩ := run_zeroValue (w := w) S hz
      obtain ⟨g1, g2⟩ := heap_new H (cs := cs) (c := z.cells) t h1 hr
      exact wp_value (fun c e => by cases e) (by simp [execOp, run_alloc' hzr]) (hn _ _ _ fr _ _ (hK _ H.none) g1 (F.le H g2) (Rel.ptr _ _) (g2.weaken _) rfl)
    · exact hK.elim
  · -- box
    rename_i t x
    split at hK
    · rename_i cs c ht hq
      obtain ⟨hc, hK⟩ := hK
      obtain ⟨c1, c2, c3, c4⟩ := cells_rel (hρ x (by simp [Op.operands])) hq hc
      obtain ⟨g1, g2⟩ := heap_new H (cs := cs) (c := (a.eval x).cells) t c4 c3
      exact wp_value (fun c e => by cases e) (by simp [execOp, run_box]) (hn _ _ _ fr _ _ (hK _ H.none) g1 (F.le H g2) (Rel.ptr _ _) (g2.weaken _) rfl)
    · exact hK.elim
  · -- store
    rename_i t x y
    obtain ⟨w', hr, hnext⟩ := store_sound (P := P) H F t (hρ x (by simp [Op.operands])) (typed_rel t (hρ y (by simp [Op.operands]))) (storeW_tm hK)
      (fun w' => next (a.put dst Go.undef) w') (fun w' h' fr' hk H' F' L' => hn S w' h' fr' .undef Go.undef hk.1 H' F' (Rel.undef _) L' hk.2)
    exact wp_skip' (fun c e => by cases e) (by simp [execOp, hr]) hnext
  · -- a slice that is written out
    rename_i t n ps
    have hE := newSlice_sound (P := P) (S := S) (w := w) (lm := lm) H t n (ps.toList.map fun e => (e.1, ρ e.2)) (ps.toList.map fun e => (e.1, a.eval e.2)) (by simp)
      (parts_rel ρ a.eval ps.toList (fun x hx => hρ x (by simpa [Op.operands] using hx))) (K := fun v h' => K v fr h') (by
        split at hK
        · rename_i hq
          rw [hq]
          exact hK
        · exact hK.elim)
    have e : (ps.toList.map fun e => (e.1, a.eval e.2)).toArray = ps.map fun (i, x) => (i, a.eval x) := by apply Array.ext'; simp
    rw [e] at hE
    exact wp_eff (fun c e => by cases e) (by simp [execOp]) hE fun v z w' h' S' hk H' hrel L' => hn S' w' h' fr v z hk H' (F.le H L') hrel (L'.weaken _) rfl
  · -- a slice of zeros
    rename_i t n c
    obtain ⟨p1, p2⟩ := makeSliceW_plain hK
    exact wp_eff (fun c e => by cases e) (by simp [execOp]) (makeSlice_sound (P := P) H ((hρ n (by simp [Op.operands])).rel p1) ((hρ c (by simp [Op.operands])).rel p2) hK) fun v z w' h' S' hk H' hrel L' => hn S' w' h' fr v z hk H' (F.le H L') hrel (L'.weaken _) rfl
  · -- a map
    rename_i t
    exact wp_eff (fun c e => by cases e) (by simp [execOp]) (newMap_sound (P := P) H t (K := fun v h' => K v fr h') hK) fun v z w' h' S' hk H' hrel L' => hn S' w' h' fr v z hk H' (F.le H L') hrel (L'.weaken _) rfl
  · -- an entry
    rename_i t m k v
    obtain ⟨w', h', hr, hk, H', L'⟩ := mapUpdate_sound (P := P) H t ((hρ m (by simp [Op.operands])).rel (mapUpdateW_plain hK)) (hρ k (by simp [Op.operands])) (hρ v (by simp [Op.operands])) hK
    exact wp_skip' (fun c e => by cases e) (by simp [execOp, hr]) (hn S w' h' fr .undef Go.undef hk H' (F.le H L') (Rel.undef _) (L'.weaken _) rfl)
  · -- is it nil?
    rename_i op t x y
    have hx := hρ x (by simp [Op.operands])
    split at hK
    case h_2 => exact hK.elim
    rename_i e ht
    have fin : ∀ (no : Bool) (b0 : Option Addr) (n c : Nat), op = eqOp no → a.eval x = .slice b0 n c → K (.bool (neg no b0.isNone)) fr h → Oper.wpIn (FW ro) 0 P { dst, op := .binOp op t x (.const (.slice none 0 0)) y, type, pos, after, guard } a w next Q := by
      intro no b0 n c e1 e2 hk
      subst e1
      have := slNil_sound (P := P) (w := w) ht no b0 n c x
      refine wp_value (x := .bool (neg no b0.isNone)) (fun c e => by cases e) ?_ (hn S w h fr _ _ hk H F (.bool _) (.refl _ _ _ _) rfl)
      have hy : a.eval (.const (.slice none 0 0)) = .slice none 0 0 := rfl
      simp only [execOp]
      rw [e2, hy]
      simp only [Sem.run_bind] at this ⊢
      rw [this]
      rfl
    have ptr : ∀ (l : List (List V)) (es : Nat) (g : G), Rel S w (.sl es l g) (a.eval x) → ∃ b0 n c, a.eval x = .slice b0 n c ∧ (l ≠ [] → b0.isNone = false) := by
      intro l es g hr
      rcases slice_parts hr with ⟨rfl, e, _⟩ | ⟨rb, o, cap, xs, e, _⟩
      · exact ⟨_, _, _, e, fun h => (h rfl).elim⟩
      · exact ⟨_, _, _, e, fun _ => rfl⟩
    have ref : ∀ (es l o n c : Nat), Rel S w (.sref es l o n c) (a.eval x) → ∃ b0, a.eval x = .slice b0 n c ∧ (n ≠ 0 → b0.isNone = false) := by
      intro es l o n c hr
      generalize a.eval x = v at hr
      cases hr with
      | sref => exact ⟨_, rfl, fun _ => rfl⟩
      | srefnil => exact ⟨_, rfl, fun h => (h rfl).elim⟩
    split at hK
    · rename_i es l g hv
      rw [hv] at hx
      obtain ⟨b0, n, c, e, hb⟩ := ptr l es g hx
      exact fin false b0 n c rfl e (hK _ hb)
    · rename_i es l g hv
      rw [hv] at hx
      obtain ⟨b0, n, c, e, hb⟩ := ptr l es g hx
      exact fin true b0 n c rfl e (hK _ hb)
    · rename_i es l o n c hv
      rw [hv] at hx
      obtain ⟨b0, e, hb⟩ := ref es l o n c hx
      exact fin false b0 n c rfl e (hK _ hb)
    · rename_i es l o n c hv
      rw [hv] at hx
      obtain ⟨b0, e, hb⟩ := ref es l o n c hx
      exact fin true b0 n c rfl e (hK _ hb)
    · exact hK.elim
  · -- bytes of a text
    rename_i s d x
    have hx := hρ x (by simp [Op.operands])
    split at hK
    case h_2 => exact hK.elim
    rename_i e es l o n c hsd hs hv
    rw [beq_iff_eq] at hsd
    subst hsd
    split at hK
    case h_2 => exact hK.elim
    rename_i hz
    obtain ⟨hn0, hl, hK⟩ := hK
    rw [hv] at hx
    exact wp_eff (fun c e => by cases e) (by simp [execOp]) (freeze_sound (P := P) H hs (zeroIsByte_some hz) hn0 hl hx (K := fun v h' => K v fr h') hK) fun v z w' h' S' hk H' hrel L' => hn S' w' h' fr v z hk H' (F.le H L') hrel (L'.weaken _) rfl
  · -- call
    rename_i c
    obtain ⟨callee, args, ts⟩ := c
    have hargs : ∀ x ∈ args.toList, TmRel S w lm (ρ x) (a.eval x) := fun x hx => hρ x (by simp [Op.operands, Call.operands]; exact .inr (by simpa using hx))
    cases callee with
    | value f =>
      simp only at hK
      split at hK
      · rename_i k first caps hf
        split at hK
        · rename_i hp
          have hfr := hρ f (by simp [Op.operands, Call.operands])
          rw [hf] at hfr
          have hfr' : Rel S w (.fn (.func k) first caps) (a.eval f) := hfr
          generalize hev : a.eval f = fv at hfr'
          cases hfr' with
          | fn _ _ _ xs ys h1 h2 hx hy =>
            have hargl : RelL S w (argsV P ρ ts.toList args.toList) (args.toList.map a.eval) := relL_of_plain (lm := lm) (by simp [(argsV_rel (P := P) ts.toList args.toList hargs).1]) hp (argsV_rel (P := P) ts.toList args.toList hargs).2
            have hall : RelL S w (first ++ argsV P ρ ts.toList args.toList ++ caps) (xs ++ args.toList.map a.eval ++ ys) := RelL.append (RelL.append (show RelL S w first xs from ⟨h1, hx⟩) hargl) ⟨h2, hy⟩
            have harr : (xs.toArray ++ args.map a.eval) ++ ys.toArray = (xs ++ args.toList.map a.eval ++ ys).toArray := by apply Array.ext'; simp
            have hrun : (execOp a.eval { dst, op := .call { callee := .value f, args, argTypes := ts }, type, pos, after, guard }).run P w = (callFunc k (xs ++ args.toList.map a.eval ++ ys).toArray).run P w := by
              rw [← harr]
              simp [execOp, resolve, hev, Deferred.ofValue, invoke]
            unfold AnyW at hK
            split at hK
            · rename_i he
              refine ⟨fun _ _ => trivial, ?_⟩
              rw [Oper.semAt_eq _ _ _ (fun c e => by cases e), hrun, callFunc_enters he]
              refine ⟨FW.deep, callsIn_wide.2 ((hK S w _ H hall).mono ?_)⟩
              rintro e w' ⟨r, x, h', S', rfl, hk, H', hr, L'⟩
              exact hn S' w' h' fr r x (shape_same hk) H' (F.le H L') hr (L'.weaken _) rfl
            · obtain ⟨r, x, w', h', S', hr, hk, H', hrel, L'⟩ := hK S w _ H hall
              exact wp_value (fun c e => by cases e) (by rw [hrun]; exact hr) (hn S' w' h' fr r x (shape_same hk) H' (F.le H L') hrel (L'.weaken _) rfl)
        · exact hK.elim
      · rename_i l hf
        split at hK
        · rename_i hp
          have hfr := hρ f (by simp [Op.operands, Call.operands])
          rw [hf] at hfr
          have hfr' : Rel S w (.fn (.yield l) [] []) (a.eval f) := hfr
          generalize hev : a.eval f = fv at hfr'
          cases hfr' with
          | fn _ _ _ xs ys h1 h2 hx hy =>
            obtain rfl : xs = [] := List.length_eq_zero_iff.1 h1
            obtain rfl : ys = [] := List.length_eq_zero_iff.1 h2
            have hargl : RelL S w (argsV P ρ ts.toList args.toList) (args.toList.map a.eval) := relL_of_plain (lm := lm) (by simp [(argsV_rel (P := P) ts.toList args.toList hargs).1]) hp (argsV_rel (P := P) ts.toList args.toList hargs).2
            obtain ⟨f', tmps, asg, body, hy1, hy2⟩ := hK S w _ H hargl
            have harr : (args.toList.map a.eval).toArray = args.map a.eval := by apply Array.ext'; simp
            rw [harr] at hy1
            have hrun : (execOp a.eval { dst, op := .call { callee := .value f, args, argTypes := ts }, type, pos, after, guard }).run P w = .ok (.round l f' tmps asg body) w := by
              have : (execOp a.eval { dst, op := .call { callee := .value f, args, argTypes := ts }, type, pos, after, guard }).run P w = (Instr.yield l (args.map a.eval)).run P w := by
                simp [execOp, resolve, hev, Deferred.ofValue, invoke]
              rw [this, hy1]
            refine ⟨fun _ _ => trivial, ?_⟩
            rw [Oper.semAt_eq _ _ _ (fun c e => by cases e), hrun]
            refine ⟨FW.deep, hy2.mono ?_⟩
            rintro e w' ⟨r, x, h', S', rfl, hk, H', hr, L'⟩
            exact hn S' w' h' fr r x (shape_same hk) H' (F.le H L') hr (L'.weaken _) rfl
        · exact hK.elim
      · exact hK.elim
    | invoke x n => exact hK.elim
    | builtin b =>
      have hargs' : ∀ x ∈ args.toList, TmRel S w lm (ρ x) (a.eval x) := hargs
      cases b <;> try exact hK.elim
      case append =>
        simp only at hK
        split at hK
        · rename_i t t2 more x y ht hx
          have e1 : args = #[x, y] := by apply Array.ext'; simpa using hx
          have e2 : ts = (t :: t2 :: more).toArray := by apply Array.ext'; simpa using ht
          subst e1
          subst e2
          have rx := typed_rel (P := P) t (hargs x (by simp))
          have ry := typed_rel (P := P) t2 (hargs y (by simp))
          obtain ⟨p1, p2⟩ := appendX_plain hK
          obtain ⟨v, z, w', h', S', hr, hk, H', hrel, L'⟩ := appendX_sound H more type (rx.rel p1) (ry.rel p2) hK
          exact wp_value (fun c e => by cases e) (by simpa [execOp, resolve, invoke, builtin] using congrArg (fun r => r.andThen fun a w' => Result.ok (Next.value a) w') hr) (hn S' w' h' fr v z hk H' (F.le H L') hrel (L'.weaken _) rfl)
        · exact hK.elim
      case copy =>
        simp only at hK
        split at hK
        · rename_i t t2 more x y ht hx
          have e1 : args = #[x, y] := by apply Array.ext'; simpa using hx
          have e2 : ts = (t :: t2 :: more).toArray := by apply Array.ext'; simpa using ht
          subst e1
          subst e2
          obtain ⟨p1, p2⟩ := copyW_plain hK
          obtain ⟨v, z, w', h', S', hr, hk, H', hrel, L'⟩ := copy_sound H more type ((typed_rel (P := P) t (hargs x (by simp))).rel p1) ((typed_rel (P := P) t2 (hargs y (by simp))).rel p2) hK
          exact wp_value (fun c e => by cases e) (by simpa [execOp, resolve, invoke, builtin] using congrArg (fun r => r.andThen fun a w' => Result.ok (Next.value a) w') hr) (hn S' w' h' fr v z hk H' (F.le H L') hrel (L'.weaken _) rfl)
        · exact hK.elim
      case len =>
        simp only at hK
        split at hK
        · rename_i t more x ht hx
          have e1 : args = #[x] := by apply Array.ext'; simpa using hx
          have e2 : ts = (t :: more).toArray := by apply Array.ext'; simpa using ht
          subst e1
          subst e2
          obtain ⟨v, z, w', h', S', hr, hk, H', hrel, L'⟩ := lenM_sound H more type (hargs x (by simp)) hK
          exact wp_value (fun c e => by cases e) (by simpa [execOp, resolve, invoke, builtin] using congrArg (fun r => r.andThen fun a w' => Result.ok (Next.value a) w') hr) (hn S' w' h' fr v z hk H' (F.le H L') hrel (L'.weaken _) rfl)
        · exact hK.elim
      case clear =>
        simp only at hK
        split at hK
        · rename_i t more x ht hx
          have e1 : args = #[x] := by apply Array.ext'; simpa using hx
          have e2 : ts = (t :: more).toArray := by apply Array.ext'; simpa using ht
          subst e1
          subst e2
          obtain ⟨v, z, w', h', S', hr, hk, H', hrel, L'⟩ := clear_sound H more type ((typed_rel (P := P) t (hargs x (by simp))).rel (clearW_plain hK)) hK
          exact wp_value (fun c e => by cases e) (by simpa [execOp, resolve, invoke, builtin] using congrArg (fun r => r.andThen fun a w' => Result.ok (Next.value a) w') hr) (hn S' w' h' fr v z hk H' (F.le H L') hrel (L'.weaken _) rfl)
        · exact hK.elim
  · exact hK.elim
end
end Jb
end

section
/- Operations under guards, one behind the other. -/
namespace Jb
open Go Go.RowKit

section
variable {P : Program} {S : Sim} {w : World} {h : Heap} {lm : Nat → Option Nat} {B : Nat} {fr : Fr} {a : Act} {esc : List Nat}

theorem FR.put (F : FR B S w h fr lm a) (dst : Option Tmp) {v : V} {x : Value} (hv : TmRel S w lm v x) : FR B S w h (fr.put dst v) lm (a.put dst x) := by
  cases dst with
  | none => exact F
  | some d =>
    exact { size := by simp [Fr.put, Act.put, F.size]
            tm := fun i u hu => by
              simp only [Fr.put] at hu
              simp only [Act.put]
              rw [List.getElem?_set] at hu
              by_cases hi : d = i
              · subst hi
                rw [if_pos rfl] at hu
                split at hu
                · rename_i hlt
                  cases hu
                  have : d < a.tmps.size := by rw [F.size]; exact hlt
                  simpa [Array.getD, this] using hv
                · cases hu
              · rw [if_neg hi] at hu
                have := F.tm i u hu
                simpa [Array.getElem?_setIfInBounds, hi] using this
            vars := F.vars, inj := F.inj, lb := F.lb, lo := F.lo, nd := F.nd, dfs := F.dfs }

theorem FR.below {w' : World} (H : HR S w h) (F : FR B S w h fr lm a) (b : Below w.heap.size w w') : FR B S w' h fr lm a := F.le H (Le.below _ H b)

theorem getD_bool {x : Value} {t : Bool} {d : Nat} (h : x = a.tmps.getD d Go.undef) (hx : x = .bool t) : a.tmps[d]? = some (.bool t) := by
  subst h
  rcases Nat.lt_or_ge d a.tmps.size with hd | hd
  · simp [Array.getD, hd] at hx
    simp [hd, hx]
  · simp [Array.getD, Nat.not_lt.2 hd, Go.undef] at hx

theorem guard_sound (F : FR B S w h fr lm a) (ops : List Oper) (o : Oper) {g : Option Bool} (hg : guardOf ops fr o = some g) : Region.wanted o (yielded ops.toArray a.tmps) = (match g with | none => true | some b => b) := by
  unfold guardOf at hg
  unfold Region.wanted
  split at hg
  · cases hg; rename_i hn; rw [hn]
  · rename_i j want hj
    rw [hj]
    simp only
    split at hg
    · rename_i p hp
      split at hg
      · rename_i d hd
        have hy : yielded ops.toArray a.tmps j = (match a.tmps[d]? with | some (.bool b) => some b | _ => none) := by
          simp only [yielded]
          have : (ops.toArray[j]?).bind (·.dst) = some d := by simp [hp, hd]
          rw [this]
          rfl
        have hev := F.ev (.tmp d)
        simp only [Fr.ev, Act.eval] at hev
        split at hg
        · rename_i t ht
          cases hg
          rw [ht] at hev
          cases hx : a.tmps.getD d Go.undef <;> rw [hx] at hev <;> cases (show Rel S w (.bool t) _ from hev)
          have := getD_bool (a := a) rfl hx
          rw [hy, this]
          cases t <;> cases want <;> rfl
        · rename_i b t' ht
          rw [ht] at hev
          obtain ⟨h1, h2⟩ := hev
          have hno : b = false → (match a.tmps[d]? with | some (.bool b) => some b | _ => none) = none := by
            intro hb
            have h2 := h2 hb
            cases hd' : a.tmps[d]? with
            | none => rfl
            | some x =>
              have : a.tmps.getD d Go.undef = x := by
                obtain ⟨hlt, hx⟩ := Array.getElem?_eq_some_iff.1 hd'
                simp [Array.getD, hlt, hx]
              rw [this] at h2
              subst h2
              rfl
          split at hg
          case h_2 => cases hg; rw [hy, hno rfl]; simp
          case h_3 => cases hg
          rename_i t
          cases hg
          cases b with
          | true =>
            have h1 := h1 rfl
            cases hx : a.tmps.getD d Go.undef <;> rw [hx] at h1 <;> cases (show Rel S w (.bool t) _ from h1)
            have := getD_bool (a := a) rfl hx
            rw [hy, this]
            cases t <;> cases want <;> rfl
          | false =>
            rw [hy, hno rfl]
            simp
        · cases hg
      · cases hg
    · cases hg

theorem exec_pick (dst : Option Tmp) (c x y : Operand) (type : TypeId) (pos : String) (after : Array Edge) (guard : Option (Nat × Bool)) :
    (execOp a.eval { dst, op := .pick c x y, type, pos, after, guard }).run P w = (do pure (Go.Next.value (← (do pure (if ← Go.asBool (a.eval c) then a.eval x else a.eval y) : Sem Value))) : Sem Go.Next).run P w := by
  simp only [execOp, Sem.run_bind, Sem.run_pure]
  cases (Go.asBool (a.eval c)).run P w <;> rfl

/-- A quiet operation that is carried out. -/
theorem quiet_sound (esc : List Nat) (H : HR S w h) (F : FR B S w h fr lm a) (o : Oper) (hneed : ∀ v ∈ quietOps o fr, ∀ b u, v = .opt b u → b = true) :
    SndN S w lm ((execOp a.eval o).run P w) (quietQ P esc fr h o) := by
  have hops : (∀ c x y, o.op ≠ .pick c x y) → ∀ x ∈ o.op.operands.toList, TmRel S w lm ((fr.ev x).strip) (a.eval x) := by
    intro hp x hx
    refine strip_rel (F.ev x) (hneed _ ?_)
    unfold quietOps
    split
    · rename_i c x y e; exact (hp _ _ _ e).elim
    · exact List.mem_map.2 ⟨x, hx, rfl⟩
  by_cases hp : ∃ c x y, o.op = .pick c x y
  · obtain ⟨c, x, y, e⟩ := hp
    obtain ⟨dst, op, type, pos, after, guard⟩ := o
    simp only at e
    subst e
    rw [exec_pick]
    refine Snd.next ?_
    exact pick_sound (strip_rel (F.ev c) (hneed _ (by simp [quietOps]))) (F.ev x) (F.ev y)
  · have hp' : ∀ c x y, o.op ≠ .pick c x y := fun c x y e => hp ⟨c, x, y, e⟩
    have := qop_sound (P := P) (dstMode o esc) H F o (fun x => (fr.ev x).strip) (hops hp')
    unfold quietQ
    split
    · rename_i c x y e; exact (hp' _ _ _ e).elim
    · rename_i e
      obtain ⟨dst, op, type, pos, after, guard⟩ := o
      simp only at e
      subst e
      simp only [nilSlQ]
      split
      · exact ⟨.slice none 0 0, w, by simp [execOp, Act.eval], .refl _ _, Rel.slnil _ _ (fun s h => by cases h)⟩
      · exact True.intro
    · exact this

theorem quiet_clean (esc : List Nat) (o : Oper) (d : Nat) (hd : NoLp d fr) : Clean d (quietQ P esc fr h o) := by
  by_cases hp : ∃ c x y, o.op = .pick c x y
  · obtain ⟨c, x, y, e⟩ := hp
    unfold quietQ
    rw [e]
    simp only [pickQ]
    repeat' split
    all_goals first | trivial | exact fun f => f
  · have hp' : ∀ c x y, o.op ≠ .pick c x y := fun c x y e => hp ⟨c, x, y, e⟩
    unfold quietQ
    split
    · rename_i c x y e; exact (hp' _ _ _ e).elim
    · unfold nilSlQ
      split
      · exact fun f => f
      · trivial
    · exact qop_clean _ o _ d (fun x hx => men_strip (hd.ev x))

/-- Does an operation begin variable d? -/
def Begins (esc : List Nat) (o : Oper) (d : Nat) : Prop := sortOf esc o = 1 ∧ o.dst = some d

/-- What is asked of what stands behind an operation. -/
def After (esc : List Nat) (B : Nat) (h : Heap) (S : Sim) (w : World) (fr : Fr) (o : Oper) (K : Fr → Heap → Prop) (next : Act → World → Prop) : Prop :=
  ∀ S' w' h' fr' lm' a', K fr' h' → HR S' w' h' → FR B S' w' h' fr' lm' a' → Le (fun rb => B ≤ rb) h S w h' S' w' → (∀ d, NoLp d fr → ¬ Begins esc o d → NoLp d fr') → next a' w'

theorem quiet_noDefer {esc : List Nat} {o : Oper} (hb : quietQ P esc fr h o ≠ .bad) : ∀ c, o.op ≠ .defer c := by
  intro c e
  apply hb
  unfold quietQ
  rw [e]
  rfl

theorem quiet_wp {ro : Option Nat} (H : HR S w h) (F : FR B S w h fr lm a) (ops : List Oper) (o : Oper) {g : Option Bool} (hg : guardOf ops fr o = some g) {K : Fr → Heap → Prop} (hK : quietW P esc g fr h o fun v => K (fr.put o.dst v) h)
    (next : Act → World → Prop) (Q : Exit → Act → World → Prop) (hn : After esc B h S w fr o K next) :
    if Region.wanted o (yielded ops.toArray a.tmps) then o.wpIn (FW ro) 0 P a w next Q else next (a.put o.dst Go.undef) w := by
  have hw := guard_sound F ops o hg
  unfold quietW at hK
  rw [optNeeds_iff] at hK
  obtain ⟨hneed, hK⟩ := hK
  have skip : ∀ v, (∀ d, NoLp d fr → ¬ men d v) → TmRel S w lm v Go.undef → K (fr.put o.dst v) h → next (a.put o.dst Go.undef) w := fun v hm hv hk =>
    hn S w h (fr.put o.dst v) lm _ hk H (F.put _ hv) (Le.refl _ _ _ _) (fun d hd _ => hd.put _ (hm d hd))
  have go : ∀ v v', YieldsN S w lm ((execOp a.eval o).run P w) v → (∀ x w', TmRel S w' lm v x → TmRel S w' lm v' x) → (∀ d, NoLp d fr → ¬ men d v') → K (fr.put o.dst v') h → quietQ P esc fr h o ≠ .bad → o.wpIn (FW ro) 0 P a w next Q := by
    rintro v v' ⟨x, w', hr, hb, hv⟩ hvv hm hk hbad
    exact wp_value (quiet_noDefer hbad) hr (hn S w' h (fr.put o.dst v') lm _ hk (H.below hb) ((F.below H hb).put _ (hvv _ _ hv)) (Le.below _ H hb) (fun d hd _ => hd.put _ (hm d hd)))
  cases g with
  | none =>
    have hneed' : ∀ v ∈ quietOps o fr, ∀ b u, v = .opt b u → b = true := hneed
    have hs := quiet_sound (P := P) esc H F o hneed'
    have hc := quiet_clean (P := P) (h := h) (fr := fr) esc o
    rw [hw]
    simp only [if_true]
    cases hq : quietQ P esc fr h o with
    | bad => rw [hq] at hK; exact hK.elim
    | ok v =>
      rw [hq] at hs hK hc
      exact go v v hs (fun _ _ h => h) hc hK (by rw [hq]; simp)
    | chk c v =>
      rw [hq] at hs hK hc
      exact go v v (hs hK.1) (fun _ _ h => h) hc hK.2 (by rw [hq]; simp)
  | some b =>
    rw [hw]
    simp only
    cases b with
    | true =>
      simp only [if_true]
      have hneed' : ∀ v ∈ quietOps o fr, ∀ b u, v = .opt b u → b = true := fun v hv b u e => hneed v hv b u e rfl
      have hs := quiet_sound (P := P) esc H F o hneed'
      have hc := quiet_clean (P := P) (h := h) (fr := fr) esc o
      cases hq : quietQ P esc fr h o with
      | bad => rw [hq] at hK; cases hK.1
      | ok v =>
        rw [hq] at hs hK hc
        exact go v (.opt true v) hs (fun _ _ h => ⟨fun _ => h, fun e => (by cases e)⟩) hc hK (by rw [hq]; simp)
      | chk c v =>
        rw [hq] at hs hK hc
        exact go v (.opt true v) (hs (hK.1 rfl)) (fun _ _ h => ⟨fun _ => h, fun e => (by cases e)⟩) hc hK.2 (by rw [hq]; simp)
    | false =>
      simp only [Bool.false_eq_true, if_false]
      cases hq : quietQ P esc fr h o with
      | bad => rw [hq] at hK; exact skip (.opt false .undef) (fun _ _ f => f) ⟨fun e => (by cases e), fun _ => rfl⟩ hK.2
      | ok v =>
        have hc := quiet_clean (P := P) (h := h) (fr := fr) esc o
        rw [hq] at hK hc
        exact skip (.opt false v) hc ⟨fun e => (by cases e), fun _ => rfl⟩ hK
      | chk c v =>
        have hc := quiet_clean (P := P) (h := h) (fr := fr) esc o
        rw [hq] at hK hc
        exact skip (.opt false v) hc ⟨fun e => (by cases e), fun _ => rfl⟩ hK.2
end
end Jb
end

section
/- Any operation in a frame; a region without a draw. -/
namespace Jb
open Go Go.RowKit

section
variable {P : Program} {S : Sim} {w : World} {h : Heap} {lm : Nat → Option Nat} {B : Nat} {fr : Fr} {a : Act} {esc : List Nat}

theorem begin_sound {ro : Option Nat} (H : HR S w h) (F : FR B S w h fr lm a) (hB : B ≤ w.heap.size) (o : Oper) {d : Nat} (hs : sortOf esc o = 1) (hd : o.dst = some d) (hm : NoLp d fr) {cs : List V} {c : Prop}
    (hneed : ∀ v ∈ o.op.operands.toList.map fr.ev, ∀ b u, v = .opt b u → b = true)
    (ho : ownVar P o.op (fun x => (fr.ev x).strip) = some (cs, c)) (hc : c) {K : Fr → Heap → Prop} (hK : K { tm := fr.tm.set d (.lp d 0), lc := lcSet d cs fr.lc } h)
    (next : Act → World → Prop) (Q : Exit → Act → World → Prop) (hn : After esc B h S w fr o K next) : o.wpIn (FW ro) 0 P a w next Q := by
  have hρ : ∀ x ∈ o.op.operands.toList, TmRel S w lm ((fr.ev x).strip) (a.eval x) := fun x hx =>
    strip_rel (F.ev x) (hneed _ (List.mem_map.2 ⟨x, hx, rfl⟩))
  have fin : ∀ (e : TypeId) (arr : Array Value), (∀ v ∈ arr.toList, v.oneCell' = true) → RelL S w cs arr.toList → (execOp a.eval o).run P w = .ok (.value (.pointer (some ⟨w.heap.size, 0, none⟩))) (w.alloc (.cells arr e)) → o.wpIn (FW ro) 0 P a w next Q := by
    intro e arr h1 hr hrun
    obtain ⟨g1, g2, g3⟩ := local_new H F hB e h1 hr hm
    refine wp_value (fun c e' => by rw [e'] at ho; cases ho) hrun ?_
    rw [hd]
    refine hn _ _ _ _ _ _ hK g1 g2 g3 (fun d' hn' hb => ?_)
    have hne : d ≠ d' := fun e => hb ⟨hs, by rw [hd, e]⟩
    exact NoLp.put (fr := { fr with lc := lcSet d cs fr.lc }) hn' (some d) (v := .lp d 0) hne
  obtain ⟨dst, op, type, pos, after, guard⟩ := o
  simp only at ho hρ
  unfold ownVar at ho
  split at ho
  · rename_i t
    split at ho
    · rename_i cs' hz
      cases ho
      obtain ⟨z, hzr, hr, h1, _, _⟩ := run_zeroValue (w := w) S hz
      exact fin t z.cells h1 hr (by simp [execOp, run_alloc' hzr])
    · cases ho
  · rename_i t x
    split at ho
    · obtain ⟨c1, c2, c3, c4⟩ := cells_rel (hρ x (by simp [Op.operands])) ho hc
      exact fin t _ c4 c3 (by simp [execOp, run_box])
    · cases ho
  · cases ho

theorem yes_rel {t : TypeId} {v : V} {x : Value} {S : Sim} {w : World} (h : TmRel S w lm v x) : TmRel S w lm (yesV P t true v) x := by
  unfold yesV
  split <;> first | exact h | exact ⟨fun _ => h, fun e => (by cases e)⟩
theorem yes_men {t : TypeId} {b : Bool} {v : V} {d : Nat} (h : ¬ men d v) : ¬ men d (yesV P t b v) := by
  unfold yesV
  split <;> exact h
theorem no_rel {t : TypeId} {S : Sim} {w : World} : TmRel S w lm (noV P t false) Go.undef := by
  unfold noV
  split <;> first | exact ⟨fun e => (by cases e), fun _ => rfl⟩ | exact Rel.undef _
theorem no_men {t : TypeId} {b : Bool} {d : Nat} : ¬ men d (noV P t b) := by
  unfold noV
  split <;> exact fun f => f

theorem effect_sound {ro : Option Nat} {mt : Nat} (H : HR S w h) (F : FR B S w h fr lm a) (o : Oper) {K : Fr → Heap → Prop} (m : V → V) (hm1 : ∀ S w v x, TmRel S w lm v x → TmRel S w lm (m v) x) (hm2 : ∀ d v, ¬ men d v → ¬ men d (m v))
    (hK : optNeeds none (o.op.operands.toList.map fr.ev) (effW P mt o.op o.type (fun x => (fr.ev x).strip) fr h fun v fr' h' => K (fr'.put o.dst (m v)) h'))
    (next : Act → World → Prop) (Q : Exit → Act → World → Prop) (hn : After esc B h S w fr o K next) : o.wpIn (FW ro) 0 P a w next Q := by
  rw [optNeeds_iff] at hK
  obtain ⟨hneed, hK⟩ := hK
  refine effW_sound H F o _ (fun x hx => strip_rel (F.ev x) (hneed _ (List.mem_map.2 ⟨x, hx, rfl⟩))) hK next Q ?_
  intro S' w' h' fr' v x hk H' F' hr L' ht
  refine hn S' w' h' _ lm _ hk H' (F'.put _ (hm1 _ _ _ _ (.of_rel hr))) L' (fun d hd _ => ?_)
  refine NoLp.put (fun i v hv => ?_) _ (hm2 _ _ (hr.not_men d))
  rw [ht] at hv
  exact hd i v hv

/-- Any operation: who asks what 'opW' asks gets what stands behind. -/
theorem opW_sound {ro : Option Nat} (H : HR S w h) (F : FR B S w h fr lm a) (hB : B ≤ w.heap.size) (ops : List Oper) (o : Oper) (hm : ∀ d, Begins esc o d → NoLp d fr) {K : Fr → Heap → Prop} (hK : opW P esc ops o fr h K)
    (next : Act → World → Prop) (Q : Exit → Act → World → Prop) (hn : After esc B h S w fr o K next) :
    if Region.wanted o (yielded ops.toArray a.tmps) then o.wpIn (FW ro) 0 P a w next Q else next (a.put o.dst Go.undef) w := by
  unfold opW at hK
  split at hK
  · exact hK.elim
  rename_i g hg
  split at hK
  · exact quiet_wp H F ops o hg hK next Q hn
  · rename_i hs
    split at hK
    · rename_i d cs c hd ho
      rw [optNeeds_iff] at hK
      obtain ⟨hneed, hc, hK⟩ := hK
      rw [guard_sound F ops o hg]
      exact begin_sound H F hB o hs hd (hm d ⟨hs, hd⟩) hneed ho hc hK next Q hn
    · exact hK.elim
  · split at hK
    · rw [guard_sound F ops o hg]
      exact effect_sound H F o (fun v => v) (fun _ _ _ _ h => h) (fun _ _ h => h) hK next Q hn
    · rename_i b
      rw [guard_sound F ops o hg]
      cases b with
      | true => exact effect_sound H F o (yesV P o.type true) (fun _ _ _ _ h => yes_rel h) (fun _ _ h => yes_men h) hK next Q hn
      | false =>
        refine hn S w h _ lm _ hK H (F.put _ no_rel) (Le.refl _ _ _ _) (fun d hd _ => hd.put _ no_men)

/-- Who forgets addresses. -/
theorem men_kill {d : Nat} {v : V} : ¬ men d (killV d v) ∧ ∀ e, ¬ men e v → ¬ men e (killV d v) := by
  have hb : ∀ e, Nat.beq e d = false → e ≠ d := fun e h => by rintro rfl; rw [Nat.beq_refl] at h; cases h
  cases v with
  | lp e off =>
    simp only [killV]
    cases hx : Nat.beq e d with
    | true => exact ⟨fun f => f, fun _ _ f => f⟩
    | false => exact ⟨hb e hx, fun _ h => h⟩
  | opt b v =>
    cases v with
    | lp e off =>
      simp only [killV]
      cases hx : Nat.beq e d with
      | true => exact ⟨fun f => f, fun _ _ f => f⟩
      | false => exact ⟨fun f => hb e hx f, fun _ h => h⟩
    | opt b v => exact ⟨fun f => f, fun _ _ f => f⟩
    | _ => exact ⟨fun f => f, fun _ h => h⟩
  | _ => exact ⟨fun f => f, fun _ h => h⟩

theorem kill_rel {d : Nat} {v : V} {x : Value} (h : TmRel S w lm v x) : TmRel S w lm (killV d v) x := by
  unfold killV
  split
  · split
    · exact Rel.undef _
    · exact h
  · split
    · exact Rel.undef _
    · exact h
  · exact Rel.undef _
  · exact h

theorem kill_sound : ∀ (ds : List Nat) {fr : Fr}, FR B S w h fr lm a → FR B S w h (killAll ds fr) lm a ∧ (∀ d ∈ ds, NoLp d (killAll ds fr)) ∧ (∀ d, NoLp d fr → NoLp d (killAll ds fr))
  | [], fr, F => ⟨F, fun _ h => (by cases h), fun _ h => h⟩
  | d :: ds, fr, F => by
    have F1 : FR B S w h { fr with tm := fr.tm.map (killV d) } lm a :=
      { size := by simp [F.size]
        tm := fun i v hv => by
          simp only [List.getElem?_map, Option.map_eq_some_iff] at hv
          obtain ⟨u, hu, rfl⟩ := hv
          exact kill_rel (F.tm i u hu)
        vars := F.vars, inj := F.inj, lb := F.lb, lo := F.lo, nd := F.nd, dfs := F.dfs }
    have n1 : NoLp d { fr with tm := fr.tm.map (killV d) } := fun i v hv => by
      simp only [List.getElem?_map, Option.map_eq_some_iff] at hv
      obtain ⟨u, hu, rfl⟩ := hv
      exact men_kill.1
    have n2 : ∀ e, NoLp e fr → NoLp e { fr with tm := fr.tm.map (killV d) } := fun e he i v hv => by
      simp only [List.getElem?_map, Option.map_eq_some_iff] at hv
      obtain ⟨u, hu, rfl⟩ := hv
      exact men_kill.2 _ (he i u hu)
    obtain ⟨k1, k2, k3⟩ := kill_sound ds F1
    refine ⟨k1, fun e he => ?_, fun e he => k3 e (n2 e he)⟩
    rcases List.mem_cons.1 he with rfl | he
    · exact k3 _ n1
    · exact k2 e he

theorem begun_mem {o : Oper} {d : Nat} (hb : Begins esc o d) : ∀ {ops : List Oper}, o ∈ ops → d ∈ begun esc ops
  | [], h => by cases h
  | x :: ops, h => by
    simp only [begun]
    rcases List.mem_cons.1 h with rfl | h
    · rw [hb.1, hb.2]; simp
    · have := begun_mem hb h
      split
      · exact List.mem_cons_of_mem _ this
      · exact this

theorem nodup_tail {o : Oper} {r : List Oper} (h : nodupN (begun esc (o :: r)) = true) : nodupN (begun esc r) = true := by
  simp only [begun] at h
  split at h
  · simp only [nodupN, Bool.and_eq_true] at h; exact h.2
  · exact h

theorem nodup_head {o : Oper} {r : List Oper} {d : Nat} (h : nodupN (begun esc (o :: r)) = true) (hb : Begins esc o d) (hd : d ∈ begun esc r) : False := by
  simp only [begun, hb.1, hb.2, nodupN, Bool.and_eq_true, Bool.not_eq_true', List.any_eq_false] at h
  exact h.1 d hd (Nat.beq_refl d)

/-- What is asked of whatever stands behind a piece of code. -/
def Goal (B : Nat) (h : Heap) (S : Sim) (w : World) (K : Fr → Heap → Prop) (next : Act → World → Prop) : Prop :=
  ∀ S' w' h' fr' lm' a', K fr' h' → HR S' w' h' → FR B S' w' h' fr' lm' a' → Le (fun rb => B ≤ rb) h S w h' S' w' → next a' w'

theorem opsW_sound {ro : Option Nat} (ops : List Oper) (Q : Exit → Act → World → Prop) : ∀ (l : List Nat) (r : List Oper), (∀ i ∈ l, i < ops.length) → r = l.filterMap (fun i => ops[i]?) → nodupN (begun esc r) = true →
    ∀ {S w h fr lm a K}, HR S w h → FR B S w h fr lm a → B ≤ w.heap.size → (∀ o ∈ r, ∀ d, Begins esc o d → NoLp d fr) → opsW P esc ops r fr h K → Goal B h S w K (Q .normal) → wpOpsIn (FW ro) 0 P ops.toArray Q l a w
  | [], r, _, hr, _, S, w, h, fr, lm, a, K, H, F, hB, hm, hK, hg => by
    simp only [List.filterMap_nil] at hr
    subst hr
    exact hg S w h fr lm a hK H F (Le.refl _ _ _ _)
  | i :: l, r, hl, hr, hnd, S, w, h, fr, lm, a, K, H, F, hB, hm, hK, hg => by
    have hi := hl i (by simp)
    have hoi : ops[i]? = some ops[i] := List.getElem?_eq_getElem hi
    simp only [List.filterMap_cons, hoi] at hr
    subst hr
    have ho : ops.toArray[i]? = some ops[i] := by simp [hi]
    have hK : opW P esc ops ops[i] fr h fun fr' h' => opsW P esc ops (l.filterMap fun i => ops[i]?) fr' h' K := hK
    have := opW_sound (ro := ro) H F hB ops ops[i] (fun d hd => hm _ (by simp) d hd) hK (wpOpsIn (FW ro) 0 P ops.toArray Q l) Q ?_
    · simp only [wpOpsIn, ho]
      split
      · rename_i hw; rw [if_pos hw] at this; exact this
      · rename_i hw; rw [if_neg hw] at this; exact ⟨fun _ _ => trivial, this⟩
    · intro S' w' h' fr' lm' a' hk H' F' L' hnl
      refine opsW_sound ops Q l _ (fun j hj => hl j (by simp [hj])) rfl (nodup_tail hnd) H' F' (Nat.le_trans hB L'.size) ?_ hk ?_
      · intro o ho d hd
        exact hnl d (hm o (by simp [ho]) d hd) (fun hb => nodup_head hnd hb (begun_mem hd ho))
      · exact fun S2 w2 h2 fr2 lm2 a2 k2 H2 F2 L2 => hg S2 w2 h2 fr2 lm2 a2 k2 H2 F2 (Le.trans H L' L2)

theorem range_filterMap (ops : List Oper) : ops = (List.range ops.toArray.size).filterMap (fun i => ops[i]?) := by
  have e : (List.range ops.length).filterMap (fun i => ops[i]?) = ops := by
    have : ∀ n, n ≤ ops.length → (List.range n).filterMap (fun i => ops[i]?) = ops.take n := by
      intro n
      induction n with
      | zero => intro _; simp
      | succ n ih =>
        intro hn
        rw [List.range_succ, List.filterMap_append, ih (by omega)]
        rw [List.take_add_one, List.getElem?_eq_getElem (by omega : n < ops.length)]
        simp [List.getElem?_eq_getElem (by omega : n < ops.length)]
    rw [this _ (Nat.le_refl _), List.take_length]
  rw [List.size_toArray]
  exact e.symm

theorem region_sound {ro : Option Nat} (H : HR S w h) (F : FR B S w h fr lm a) (hB : B ≤ w.heap.size) (ops : Array Oper) (id : Nat) {K : Fr → Heap → Prop} (hK : regW P esc ops.toList false fr h K) {Q : Exit → Act → World → Prop}
    (hg : Goal B h S w K (Q .normal)) : (Code.region id ops false).wpIn (FW ro) 0 P Q a w := by
  simp only [regW] at hK
  split at hK
  · rename_i hnd
    obtain ⟨F1, n1, _⟩ := kill_sound (begun esc ops.toList) F
    refine wpIn_region ?_
    have := opsW_sound (ro := ro) (P := P) (esc := esc) ops.toList Q (List.range ops.size) ops.toList (fun i hi => by simpa using hi) (range_filterMap ops.toList) hnd H F1 hB (fun o ho d hd => n1 d (begun_mem hd ho)) hK hg
    simpa using this
  · exact hK.elim
end
end Jb
end

section
/- Operations that change places: the laws of 'opW' alone, with no world in sight. -/
namespace Jb
open Go Go.RowKit

section
variable {P : Program} {esc : List Nat} {ops : List Oper}

/-! What looks at the same gives the same. -/

def Same (o : Oper) (ops : List Oper) (fr fr' : Fr) : Prop := ∀ t ∈ o.looksAt ops.toArray, fr.tm.getD t .undef = fr'.tm.getD t .undef

theorem Same.ev {o : Oper} {fr fr' : Fr} (s : Same o ops fr fr') : ∀ x ∈ o.op.operands.toList, fr.ev x = fr'.ev x := by
  intro x hx
  cases x with
  | tmp t =>
    refine s t (List.mem_append_left _ (List.mem_filterMap.2 ⟨.tmp t, hx, rfl⟩))
  | _ => rfl

theorem Same.guard {o : Oper} {fr fr' : Fr} (s : Same o ops fr fr') : guardOf ops fr o = guardOf ops fr' o := by
  unfold guardOf
  cases hg : o.guard with
  | none => rfl
  | some jw =>
    obtain ⟨j, want⟩ := jw
    simp only
    cases hj : ops[j]? with
    | none => rfl
    | some p =>
      simp only
      cases hd : p.dst with
      | none => rfl
      | some d =>
        simp only
        rw [s d (List.mem_append_right _ (by simp [hg, hj, hd]))]

theorem map_ev {l : List Operand} {ρ ρ' : Operand → V} (h : ∀ x ∈ l, ρ x = ρ' x) : l.map ρ = l.map ρ' := List.map_congr_left h

theorem Same.mapEv {o : Oper} {fr fr' : Fr} (s : Same o ops fr fr') : o.op.operands.toList.map fr.ev = o.op.operands.toList.map fr'.ev := map_ev s.ev

theorem qop_congr {m : Nat} {op : Op} {fr fr' : Fr} {h h' : Heap} {ρ ρ' : Operand → V} (hρ : ∀ x ∈ op.operands.toList, ρ x = ρ' x)
    (hm : ∀ t x, op = .load t x → loadQ P m fr h t (ρ x) = loadQ P m fr' h' t (ρ x)) (hh : isRead op = true → h = h') : qop P m fr h ρ op = qop P m fr' h' ρ' op := by
  have pairs : ∀ ps : List (Nat × Operand), (∀ x ∈ ps.map (·.2), ρ x = ρ' x) → (ps.map fun e => (e.1, ρ e.2)) = (ps.map fun e => (e.1, ρ' e.2)) := fun ps hp =>
    List.map_congr_left fun p hp' => by rw [hp p.2 (List.mem_map.2 ⟨p, hp', rfl⟩)]
  cases op <;> simp only [Op.operands] at hρ <;> try rfl
  case move x => simp only [qop]; rw [hρ x (by simp)]
  case assign x => simp only [qop]; rw [hρ x (by simp)]
  case build t ps => simp only [qop]; rw [pairs _ (fun x hx => hρ x (by simpa using hx))]
  case buildSlice t n ps => simp only [qop]; rw [pairs _ (fun x hx => hρ x (by simpa using hx))]
  case load t x => simp only [qop]; rw [← hρ x (by simp)]; exact hm t x rfl
  case nilCheck x => simp only [qop]; rw [hρ x (by simp)]
  case binOp op t x y t2 => simp only [qop]; rw [hρ x (by simp), hρ y (by simp)]
  case unOp op t x => simp only [qop]; rw [hρ x (by simp)]
  case convert a b x => simp only [qop]; rw [hρ x (by simp), hh rfl]
  case lookup t x i ok => simp only [qop]; rw [hρ x (by simp), hρ i (by simp), hh rfl]
  case fieldAddr a x f => simp only [qop]; rw [hρ x (by simp)]
  case indexAddr a x i => simp only [qop]; rw [hρ x (by simp), hρ i (by simp)]
  case index a x i => simp only [qop]; rw [hρ x (by simp), hρ i (by simp)]
  case field a x f => simp only [qop]; rw [hρ x (by simp)]
  case extract x i => simp only [qop]; rw [hρ x (by simp)]
  case slice t x lo hi mx =>
    simp only [qop]
    rw [hρ x (by simp)]
    have o : ∀ y : Option Operand, (∀ z, y = some z → ρ z = ρ' z) → y.map ρ = y.map ρ' := fun y hy => by
      cases y with
      | none => rfl
      | some z => simp [hy z rfl]
    rw [o lo (fun z hz => hρ z (by subst hz; simp)), o hi (fun z hz => hρ z (by subst hz; simp)), o mx (fun z hz => hρ z (by subst hz; simp))]
  case makeFunc f xs ys =>
    cases f <;> try rfl
    simp only [qop]
    rw [map_ev (fun x hx => hρ x (by simp; exact .inl (by simpa using hx))), map_ev (l := ys.toList) (fun x hx => hρ x (by simp; exact .inr (by simpa using hx)))]
  case makeInterface t x => simp only [qop]; rw [hρ x (by simp)]
  case call c =>
    obtain ⟨callee, args, ts⟩ := c
    cases callee <;> try rfl
    case builtin b =>
      have ha : args.toList.map ρ = args.toList.map ρ' := map_ev fun x hx => hρ x (by simpa [Call.operands] using hx)
      cases b <;> try rfl
      case len =>
        simp only [qop]
        split
        · rename_i t r x s h1 h2
          rw [hρ x (by have : x ∈ args.toList := by rw [h2]; simp
                       simpa [Call.operands] using this)]
        · rfl
      case min => simp only [qop]; rw [ha]
      case max => simp only [qop]; rw [ha]

/-! What an operation without an effect does to a frame. -/

inductive Tr where
  | put (d : Option Tmp) (v : V)
  | beg (d : Nat) (cs : List V)

def Tr.app : Tr → Fr → Fr
  | .put d v, fr => fr.put d v
  | .beg d cs, fr => { tm := fr.tm.set d (.lp d 0), lc := lcSet d cs fr.lc }

def Tr.slot : Tr → Option Tmp
  | .put d _ => d
  | .beg d _ => some d

def Tr.begs : Tr → Nat → Prop
  | .put _ _, _ => False
  | .beg d _, e => d = e

theorem set_getD {l : List V} {d t : Nat} {v : V} (h : d ≠ t) : (l.set d v).getD t .undef = l.getD t .undef := by
  simp [List.getD, h]

theorem Tr.tm {τ : Tr} {fr : Fr} {t : Nat} (h : τ.slot ≠ some t) : (τ.app fr).tm.getD t .undef = fr.tm.getD t .undef := by
  cases τ with
  | put d v =>
    cases d with
    | none => rfl
    | some d => exact set_getD (fun e => h (by simp [Tr.slot, e]))
  | beg d cs => exact set_getD (fun e => h (by simp [Tr.slot, e]))

theorem find_lcSet {d e : Nat} (hne : d ≠ e) (cs : List V) : ∀ (l : List (Nat × List V)), (lcSet d cs l).find? (fun x => x.1 == e) = l.find? (fun x => x.1 == e)
  | [] => by simp [lcSet, hne]
  | x :: l => by
    rcases Nat.lt_trichotomy x.1 d with a | a | a
    · rw [lcSet_gt a, List.find?_cons, List.find?_cons, find_lcSet hne cs l]
    · rw [lcSet_eq a, List.find?_cons, List.find?_cons]
      have h1 : (d == e) = false := by simpa using hne
      have h2 : (x.1 == e) = false := by rw [a]; exact h1
      simp only [h1, h2]
    · rw [lcSet_lt a, List.find?_cons]
      have h1 : (d == e) = false := by simpa using hne
      simp only [h1]

theorem var_lcSet {fr : Fr} {d e : Nat} (hne : d ≠ e) (cs : List V) (tm : List V) : Fr.var { tm := tm, lc := lcSet d cs fr.lc } e = fr.var e := by
  simp only [Fr.var, find_lcSet hne]

theorem Tr.var {τ : Tr} {fr : Fr} {e : Nat} (h : ¬ τ.begs e) : (τ.app fr).var e = fr.var e := by
  cases τ with
  | put d v => cases d <;> rfl
  | beg d cs => exact var_lcSet h cs _

/-- The two of them change places. -/
theorem Tr.comm {τ σ : Tr} (h : ∀ d, τ.slot = some d → σ.slot ≠ some d) (fr : Fr) : τ.app (σ.app fr) = σ.app (τ.app fr) := by
  have hs : ∀ {d e : Nat}, τ.slot = some d → σ.slot = some e → d ≠ e := fun h1 h2 e => h _ h1 (by rw [h2, e])
  cases τ with
  | put d v =>
    cases d with
    | none => rfl
    | some d =>
      cases σ with
      | put e u =>
        cases e with
        | none => rfl
        | some e => simp only [Tr.app, Fr.put]; rw [List.set_comm _ _ (Ne.symm (hs rfl rfl))]
      | beg e cs => simp only [Tr.app, Fr.put]; rw [List.set_comm _ _ (Ne.symm (hs rfl rfl))]
  | beg d cs =>
    cases σ with
    | put e u =>
      cases e with
      | none => rfl
      | some e => simp only [Tr.app, Fr.put]; rw [List.set_comm _ _ (Ne.symm (hs rfl rfl))]
    | beg e ds => simp only [Tr.app]; rw [List.set_comm _ _ (Ne.symm (hs rfl rfl)), lcSet_comm (hs rfl rfl)]

/-! Quiet operations. -/

def quietRes : Q → Option Bool → V → Prop
  | .ok u, g, v => v = putOpt g u
  | .chk c u, none, v => c ∧ v = u
  | .chk c u, some b, v => (b = true → c) ∧ v = .opt b u
  | .bad, some b, v => b = false ∧ v = .opt false .undef
  | .bad, none, _ => False

theorem quietW_iff {g : Option Bool} {fr : Fr} {h : Heap} {o : Oper} {K : V → Prop} : quietW P esc g fr h o K ↔ ∃ v, (optNeeds g (quietOps o fr) True ∧ quietRes (quietQ P esc fr h o) g v) ∧ K v := by
  unfold quietW
  rw [optNeeds_iff, optNeeds_iff]
  cases quietQ P esc fr h o <;> cases g <;> simp only [quietRes] <;> constructor
  all_goals first
    | (rintro ⟨h1, h2, h3⟩; exact ⟨_, ⟨⟨h1, trivial⟩, h2, rfl⟩, h3⟩)
    | (rintro ⟨h1, h2⟩; exact ⟨_, ⟨⟨h1, trivial⟩, rfl⟩, h2⟩)
    | (rintro ⟨v, ⟨⟨h1, _⟩, h2, rfl⟩, h3⟩; exact ⟨h1, h2, h3⟩)
    | (rintro ⟨v, ⟨⟨h1, _⟩, rfl⟩, h3⟩; exact ⟨h1, h3⟩)
    | (rintro ⟨_, h⟩; exact h.elim)
    | (rintro ⟨_, ⟨_, h⟩, _⟩; exact h.elim)

/-- An operation without an effect, and what it does. -/
def Does (P : Program) (esc : List Nat) (ops : List Oper) (o : Oper) (fr : Fr) (h : Heap) (τ : Tr) : Prop :=
  ∃ g, guardOf ops fr o = some g ∧
    ((sortOf esc o = 0 ∧ ∃ v, (optNeeds g (quietOps o fr) True ∧ quietRes (quietQ P esc fr h o) g v) ∧ τ = .put o.dst v) ∨
     (sortOf esc o = 1 ∧ g = none ∧ ∃ d cs c, o.dst = some d ∧ ownVar P o.op (fun x => (fr.ev x).strip) = some (cs, c) ∧ optNeeds none (o.op.operands.toList.map fr.ev) c ∧ τ = .beg d cs))

theorem sort_le (o : Oper) : sortOf esc o = 0 ∨ sortOf esc o = 1 ∨ sortOf esc o = 2 := by
  unfold sortOf
  repeat' split
  all_goals simp

theorem opW_iff {o : Oper} {fr : Fr} {h : Heap} {K : Fr → Heap → Prop} (hs : sortOf esc o ≠ 2) : opW P esc ops o fr h K ↔ ∃ τ, Does P esc ops o fr h τ ∧ K (τ.app fr) h := by
  unfold opW Does
  cases hg : guardOf ops fr o with
  | none => simp
  | some g =>
    simp only
    rcases sort_le (esc := esc) o with h0 | h0 | h0
    · rw [h0]
      simp only
      rw [quietW_iff]
      constructor
      · rintro ⟨v, hv, hK⟩
        exact ⟨.put o.dst v, ⟨g, rfl, .inl ⟨by trivial, v, hv, rfl⟩⟩, hK⟩
      · rintro ⟨τ, ⟨g', hg', ⟨_, v, hv, rfl⟩ | ⟨h1, _⟩⟩, hK⟩
        · cases hg'; exact ⟨v, hv, hK⟩
        · cases h1
    · rw [h0]
      simp only
      constructor
      · intro hK
        split at hK
        · rename_i d cs c hd ho
          rw [optNeeds_iff] at hK
          exact ⟨.beg d cs, ⟨none, rfl, .inr ⟨by trivial, rfl, d, cs, c, hd, ho, (optNeeds_iff _ _ _).2 ⟨hK.1, hK.2.1⟩, rfl⟩⟩, hK.2.2⟩
        · exact hK.elim
      · rintro ⟨τ, ⟨g', hg', ⟨h1, _⟩ | ⟨_, rfl, d, cs, c, hd, ho, hn, rfl⟩⟩, hK⟩
        · cases h1
        · cases hg'
          rw [hd, ho]
          simp only
          rw [optNeeds_iff] at hn ⊢
          exact ⟨hn.1, hn.2, hK⟩
    · exact (hs h0).elim

theorem Does.slot {o : Oper} {fr : Fr} {h : Heap} {τ : Tr} (D : Does P esc ops o fr h τ) : τ.slot = o.dst := by
  obtain ⟨g, _, ⟨_, v, _, rfl⟩ | ⟨_, _, d, cs, c, hd, _, _, rfl⟩⟩ := D
  · rfl
  · exact hd.symm

theorem Does.begs {o : Oper} {fr : Fr} {h : Heap} {τ : Tr} (D : Does P esc ops o fr h τ) {d : Nat} (hb : τ.begs d) : Begins esc o d := by
  obtain ⟨g, _, ⟨_, v, _, rfl⟩ | ⟨h1, _, d', cs, c, hd, _, _, rfl⟩⟩ := D
  · exact hb.elim
  · cases hb; exact ⟨h1, hd⟩
end
end Jb
end

section
/- Operations that change places, further. -/
namespace Jb
open Go Go.RowKit

section
variable {P : Program} {esc : List Nat} {ops : List Oper}

theorem need_mono {q : Q} {K K' : V → Prop} (h : q.need K) (m : ∀ v, K v → K' v) : q.need K' := by
  cases q with
  | ok v => exact m _ h
  | chk c v => exact ⟨h.1, m _ h.2⟩
  | bad => exact h

theorem shape1_mono {mt : Nat} {t : TypeId} {r : V} {K K' : V → Prop} (h : shape1 P mt t r K) (m : ∀ v, K v → K' v) : shape1 P mt t r K' := by
  unfold shape1 at *
  split at h
  · unfold ptrK at *
    split at h <;> first | exact m _ h | exact h
  · exact ⟨h.1, m _ h.2⟩
  · exact ⟨h.1, m _ h.2⟩
  · exact ⟨h.1, m _ h.2⟩
  · exact need_mono h m

theorem shapes_mono {mt : Nat} : ∀ {ts : List TypeId} {i : Nat} {vs : List V} {K K' : List V → Prop}, shapes P mt ts i vs K → (∀ vs, K vs → K' vs) → shapes P mt ts i vs K'
  | [], _, _, _, _, h, m => m _ h
  | _ :: _, _, _, _, _, h, m => shape1_mono h fun _ h => shapes_mono h fun _ h => m _ h

theorem shapeW_mono {mt : Nat} {t : TypeId} {r : V} {K K' : V → Prop} (h : shapeW P mt t r K) (m : ∀ v, K v → K' v) : shapeW P mt t r K' := by
  unfold shapeW at *
  split at h
  · exact ⟨h.1, shapes_mono h.2 fun _ h => m _ h⟩
  · exact shape1_mono h m

theorem AnyW.mono {f : FuncId} {args : List V} {h : Heap} {K K' : V → Heap → Prop} (c : AnyW P f args h K) (m : ∀ r h', K r h' → K' r h') : AnyW P f args h K' := by
  unfold AnyW at *
  split at c
  · exact CallW.mono c m
  · exact fun S w xs H R => by
      obtain ⟨r, x, w', h', S', a, k, b⟩ := c S w xs H R
      exact ⟨r, x, w', h', S', a, m _ _ k, b⟩

theorem appG_mono {es n m : Nat} {g : G} {h : Heap} {K K' : G → Heap → Prop} (hK : appG es n m g h K) (mo : ∀ r h', K r h' → K' r h') : appG es n m g h K' := by
  unfold appG at *
  split at hK
  · exact ⟨hK.1, mo _ _ hK.2⟩
  · split at hK
    · exact mo _ _ hK
    · exact fun s hs => mo _ _ (hK s hs)
  · exact hK

theorem appendW_mono {t t2 : TypeId} {u v : V} {h : Heap} {K K' : V → Heap → Prop} (hK : appendW P t t2 u v h K) (m : ∀ r h', K r h' → K' r h') : appendW P t t2 u v h K' := by
  unfold appendW at *
  split at hK <;> try exact hK.elim
  split at hK <;> try exact hK.elim
  split at hK <;> try exact hK.elim
  split at hK <;> try exact hK.elim
  exact ⟨hK.1, appG_mono hK.2 fun _ _ k => m _ _ k⟩

theorem appendM_mono {t t2 : TypeId} {u v : V} {h : Heap} {K K' : V → Heap → Prop} (hK : appendM P t t2 u v h K) (m : ∀ r h', K r h' → K' r h') : appendM P t t2 u v h K' := by
  unfold appendM at *
  split at hK <;> try exact hK.elim
  split at hK <;> try exact hK.elim
  split at hK <;> try exact hK.elim
  split at hK <;> try exact hK.elim
  obtain ⟨h1, h2, h3, h4⟩ := hK
  exact ⟨h1, h2, h3, fun a b c d e => m _ _ (h4 a b c d e)⟩

theorem appendD_mono {t t2 : TypeId} {u v : V} {h : Heap} {K K' : V → Heap → Prop} (hK : appendD P t t2 u v h K) (m : ∀ r h', K r h' → K' r h') : appendD P t t2 u v h K' := by
  unfold appendD at *
  split at hK <;> try exact hK.elim
  split at hK <;> try exact hK.elim
  split at hK <;> try exact hK.elim
  obtain ⟨hc, hK⟩ := hK
  refine ⟨hc, ?_⟩
  split at hK
  · split at hK <;> try exact hK.elim
    obtain ⟨h1, h2, h3, h4, h5⟩ := hK
    exact ⟨h1, h2, h3, fun e => m _ _ (h4 e), fun hp a b c d e => m _ _ (h5 hp a b c d e)⟩
  · split at hK <;> try exact hK.elim
    obtain ⟨h1, h2, h3⟩ := hK
    exact ⟨h1, fun e => m _ _ (h2 e), fun hp a b c d e f => m _ _ (h3 hp a b c d e f)⟩
  · exact hK

theorem appendX_mono {mt : Nat} {t t2 : TypeId} {u v : V} {h : Heap} {K K' : V → Heap → Prop} (hK : appendX P mt t t2 u v h K) (m : ∀ r h', K r h' → K' r h') : appendX P mt t t2 u v h K' := by
  unfold appendX at *
  split at hK
  · exact appendW_mono hK m
  · exact appendM_mono hK m
  · exact appendD_mono hK m

theorem storeW_mono {t : TypeId} {u v : V} {fr : Fr} {h : Heap} {K K' : Fr → Heap → Prop} (hK : storeW P t u v fr h K) (m : ∀ f h', f.tm = fr.tm → K f h' → K' f h') : storeW P t u v fr h K' := by
  unfold storeW at *
  split at hK <;> try exact hK.elim
  split at hK <;> try exact hK.elim
  split at hK
  · exact ⟨hK.1, hK.2.1, m _ _ rfl hK.2.2⟩
  · exact ⟨hK.1, hK.2.1, m _ _ rfl hK.2.2⟩
  · exact hK

theorem copyW_mono {t t2 : TypeId} {u v : V} {h : Heap} {K K' : V → Heap → Prop} (hK : copyW P t t2 u v h K) (m : ∀ v h', K v h' → K' v h') : copyW P t t2 u v h K' := by
  unfold copyW at *
  split at hK <;> try exact hK.elim
  split at hK <;> try exact hK.elim
  split at hK
  · split at hK
    · obtain ⟨h1, h2, h3, h4, h5⟩ := hK; exact ⟨h1, h2, h3, h4, m _ _ h5⟩
    · exact hK
  · obtain ⟨h1, h2, h3⟩ := hK; exact ⟨h1, h2, m _ _ h3⟩
  · exact hK

theorem lenMW_mono {t : TypeId} {u : V} {h : Heap} {K K' : V → Heap → Prop} (hK : lenMW P t u h K) (m : ∀ v h', K v h' → K' v h') : lenMW P t u h K' := by
  unfold lenMW at *
  split at hK <;> first | exact m _ _ hK | exact hK

theorem clearW_mono {t : TypeId} {u : V} {h : Heap} {K K' : V → Heap → Prop} (hK : clearW P t u h K) (m : ∀ v h', K v h' → K' v h') : clearW P t u h K' := by
  unfold clearW at *
  split at hK <;> try exact hK.elim
  split at hK <;> try exact hK.elim
  split at hK
  · split at hK
    · obtain ⟨h1, h2, h3, h4⟩ := hK; exact ⟨h1, h2, h3, m _ _ h4⟩
    · exact hK
  · exact hK

theorem makeSliceW_mono {t : TypeId} {u v : V} {h : Heap} {K K' : V → Heap → Prop} (hK : makeSliceW P t u v h K) (m : ∀ v h', K v h' → K' v h') : makeSliceW P t u v h K' := by
  unfold makeSliceW at *
  split at hK <;> try exact hK.elim
  split at hK <;> try exact hK.elim
  split at hK
  · obtain ⟨h1, h2, h3, h4⟩ := hK; exact ⟨h1, h2, h3, fun k hk => m _ _ (h4 k hk)⟩
  · exact hK

theorem mapUpdateW_mono {t : TypeId} {u k v : V} {h : Heap} {K K' : Heap → Prop} (hK : mapUpdateW P t u k v h K) (m : ∀ h', K h' → K' h') : mapUpdateW P t u k v h K' := by
  unfold mapUpdateW at *
  split at hK <;> try exact hK.elim
  split at hK <;> try exact hK.elim
  split at hK
  · exact m _ hK
  · exact hK

theorem effW_mono {mt : Nat} {op : Op} {ty : TypeId} {ρ : Operand → V} {fr : Fr} {h : Heap} {K K' : V → Fr → Heap → Prop} (hK : effW P mt op ty ρ fr h K) (m : ∀ v f h', f.tm = fr.tm → K v f h' → K' v f h') : effW P mt op ty ρ fr h K' := by
  unfold effW at *
  split at hK
  · split at hK
    · exact fun l hl => m _ _ _ rfl (hK l hl)
    · exact hK
  · split at hK
    · exact ⟨hK.1, fun l hl => m _ _ _ rfl (hK.2 l hl)⟩
    · exact hK
  · exact storeW_mono hK fun f h' e k => m _ _ _ e k
  · split at hK
    · exact ⟨hK.1, fun l hl => m _ _ _ rfl (hK.2 l hl)⟩
    · exact hK
  · exact makeSliceW_mono hK fun v h' k => m _ _ _ rfl k
  · exact fun l hl => m _ _ _ rfl (hK l hl)
  · exact mapUpdateW_mono hK fun h' k => m _ _ _ rfl k
  · split at hK
    · split at hK
      · exact fun b hb => m _ _ _ rfl (hK b hb)
      · exact fun b hb => m _ _ _ rfl (hK b hb)
      · exact fun b hb => m _ _ _ rfl (hK b hb)
      · exact fun b hb => m _ _ _ rfl (hK b hb)
      · exact hK
    · exact hK
  · split at hK
    · split at hK
      · exact ⟨hK.1, hK.2.1, m _ _ _ rfl hK.2.2⟩
      · exact hK
    · exact hK
  · split at hK
    · split at hK
      · split at hK
        · exact AnyW.mono hK fun r h' k => shapeW_mono k fun v k => m _ _ _ rfl k
        · exact hK
      · split at hK
        · exact YieldW.mono hK fun r h' k => shapeW_mono k fun v k => m _ _ _ rfl k
        · exact hK
      · exact hK
    · split at hK
      · exact appendX_mono hK fun v h' k => m _ _ _ rfl k
      · exact hK
    · split at hK
      · exact copyW_mono hK fun v h' k => m _ _ _ rfl k
      · exact hK
    · split at hK
      · exact lenMW_mono hK fun v h' k => m _ _ _ rfl k
      · exact hK
    · split at hK
      · exact clearW_mono hK fun v h' k => m _ _ _ rfl k
      · exact hK
    · exact hK
  · exact hK

/-- What an operation leaves as it was. -/
structure Info (esc : List Nat) (ops : List Oper) (o : Oper) (fr : Fr) (h : Heap) (f : Fr) (h' : Heap) : Prop where
  tm : ∀ t, o.dst ≠ some t → f.tm.getD t .undef = fr.tm.getD t .undef
  heap : sortOf esc o ≠ 2 ∨ guardOf ops fr o = some (some false) → h' = h
  var : sortOf esc o ≠ 2 ∨ guardOf ops fr o = some (some false) → ∀ d, ¬ Begins esc o d → f.var d = fr.var d

theorem put_getD {fr : Fr} {dst : Option Tmp} {v : V} {t : Nat} (h : dst ≠ some t) : (fr.put dst v).tm.getD t .undef = fr.tm.getD t .undef := Tr.tm (τ := .put dst v) h

theorem opW_mono {o : Oper} {fr : Fr} {h : Heap} {K K' : Fr → Heap → Prop} (hK : opW P esc ops o fr h K) (m : ∀ f h', Info esc ops o fr h f h' → K f h' → K' f h') : opW P esc ops o fr h K' := by
  by_cases hs : sortOf esc o = 2
  · unfold opW at *
    cases hg : guardOf ops fr o with
    | none => rw [hg] at hK; exact hK
    | some g =>
      rw [hg, hs] at hK
      rw [hs]
      simp only at hK ⊢
      have go : g ≠ some false → ∀ {m0 : V → V}, optNeeds none (o.op.operands.toList.map fr.ev) (effW P (dstMode o esc) o.op o.type (fun x => (fr.ev x).strip) fr h fun v fr' h' => K (fr'.put o.dst (m0 v)) h') →
          optNeeds none (o.op.operands.toList.map fr.ev) (effW P (dstMode o esc) o.op o.type (fun x => (fr.ev x).strip) fr h fun v fr' h' => K' (fr'.put o.dst (m0 v)) h') := fun hgf {_} hk => by
        have nf : ¬ (sortOf esc o ≠ 2 ∨ guardOf ops fr o = some (some false)) := by
          rintro (c | c)
          · exact c hs
          · rw [hg] at c; exact hgf (Option.some.inj c)
        rw [optNeeds_iff] at hk ⊢
        exact ⟨hk.1, effW_mono hk.2 fun v f h' e k => m _ _ ⟨fun t ht => by rw [put_getD ht, e], fun c => (nf c).elim, fun c => (nf c).elim⟩ k⟩
      cases g with
      | none => exact go (by simp) (m0 := fun v => v) hK
      | some b =>
        cases b with
        | true => exact go (by simp) (m0 := yesV P o.type true) hK
        | false => exact m _ _ ⟨fun t ht => put_getD ht, fun _ => rfl, fun _ d _ => by cases o.dst <;> rfl⟩ hK
  · rw [opW_iff hs] at *
    obtain ⟨τ, D, k⟩ := hK
    refine ⟨τ, D, m _ _ ⟨fun t ht => Tr.tm (by rw [D.slot]; exact ht), fun _ => rfl, fun _ d hd => Tr.var (fun hb => hd (D.begs hb))⟩ k⟩

/-! The same operation, from another frame. -/

theorem quietQ_congr {o : Oper} {fr fr' : Fr} {h h' : Heap} (s : Same o ops fr fr') (hl : ∀ m t x, o.op = .load t x → loadQ P m fr h t (fr.ev x).strip = loadQ P m fr' h' t (fr.ev x).strip) (hh : isRead o.op = true → h = h') : quietQ P esc fr h o = quietQ P esc fr' h' o := by
  have hev := s.ev
  unfold quietQ
  split
  · rename_i c a b e
    rw [e] at hev
    rw [hev c (by simp [Op.operands]), hev a (by simp [Op.operands]), hev b (by simp [Op.operands])]
  · rfl
  · exact qop_congr (fun x hx => by rw [hev x hx]) (hl _) hh

theorem quietOps_congr {o : Oper} {fr fr' : Fr} (s : Same o ops fr fr') : quietOps o fr = quietOps o fr' := by
  have hev := s.ev
  unfold quietOps
  split
  · rename_i c a b e
    rw [e] at hev
    rw [hev c (by simp [Op.operands])]
  · exact map_ev hev

theorem ownVar_congr {op : Op} {ρ ρ' : Operand → V} (h : ∀ x ∈ op.operands.toList, ρ x = ρ' x) : ownVar P op ρ = ownVar P op ρ' := by
  cases op <;> try rfl
  case box t x => simp only [ownVar]; rw [h x (by simp [Op.operands])]

theorem Does.congr {o : Oper} {fr fr' : Fr} {h h' : Heap} {τ : Tr} (D : Does P esc ops o fr h τ) (s : Same o ops fr fr') (hl : ∀ m t x, o.op = .load t x → loadQ P m fr h t (fr.ev x).strip = loadQ P m fr' h' t (fr.ev x).strip) (hh : isRead o.op = true → h = h') :
    Does P esc ops o fr' h' τ := by
  obtain ⟨g, hg, hd⟩ := D
  refine ⟨g, by rw [← s.guard]; exact hg, ?_⟩
  rcases hd with ⟨h0, v, ⟨h1, h2⟩, h3⟩ | ⟨h0, h1, d, cs, c, h2, h3, h4, h5⟩
  · exact .inl ⟨h0, v, ⟨by rw [← quietOps_congr s]; exact h1, by rw [← quietQ_congr s hl hh]; exact h2⟩, h3⟩
  · exact .inr ⟨h0, h1, d, cs, c, h2, by rw [← h3]; exact ownVar_congr fun x hx => by rw [s.ev x hx], by rw [← s.mapEv]; exact h4, h5⟩

theorem typed_congr {ρ ρ' : Operand → V} {t : TypeId} {x : Operand} (h : ρ x = ρ' x) : typed P ρ t x = typed P ρ' t x := by
  unfold typed
  split
  · rfl
  · exact h

theorem argsV_congr {ρ ρ' : Operand → V} : ∀ (ts : List TypeId) (l : List Operand), (∀ x ∈ l, ρ x = ρ' x) → argsV P ρ ts l = argsV P ρ' ts l
  | ts, [], _ => by cases ts <;> rfl
  | [], x :: l, h => by simp only [argsV]; rw [h x (by simp), argsV_congr [] l fun y hy => h y (by simp [hy])]
  | t :: ts, x :: l, h => by simp only [argsV]; rw [typed_congr (h x (by simp)), argsV_congr ts l fun y hy => h y (by simp [hy])]

theorem effW_congr {mt : Nat} {op : Op} {ty : TypeId} {ρ ρ' : Operand → V} {fr : Fr} {h : Heap} {K : V → Fr → Heap → Prop} (hρ : ∀ x ∈ op.operands.toList, ρ x = ρ' x) (hK : effW P mt op ty ρ fr h K) : effW P mt op ty ρ' fr h K := by
  have : effW P mt op ty ρ fr h K = effW P mt op ty ρ' fr h K := by
    cases op <;> try rfl
    case box t x => simp only [effW]; rw [hρ x (by simp [Op.operands])]
    case store t a x => simp only [effW]; rw [typed_congr (hρ x (by simp [Op.operands])), hρ a (by simp [Op.operands])]
    case makeMap t r => cases r <;> rfl
    case buildSlice t n ps =>
      have : (ps.toList.map fun e => (e.1, ρ e.2)) = (ps.toList.map fun e => (e.1, ρ' e.2)) := List.map_congr_left fun p hp => by rw [hρ p.2 (by simp [Op.operands]; exact ⟨p.1, by simpa using hp⟩)]
      simp only [effW]; rw [this]
    case makeSlice t n c => simp only [effW]; rw [hρ n (by simp [Op.operands]), hρ c (by simp [Op.operands])]
    case mapUpdate t m k v => simp only [effW]; rw [hρ m (by simp [Op.operands]), hρ k (by simp [Op.operands]), hρ v (by simp [Op.operands])]
    case convert s d x => simp only [effW]; rw [hρ x (by simp [Op.operands])]
    case binOp op t x y t2 =>
      have hx := hρ x (by simp [Op.operands])
      unfold effW
      split <;> first
        | rfl
        | (rename_i e; cases e; done)
        | (rename_i e; cases e; simp only [hx])
    case call c =>
      obtain ⟨callee, args, ts⟩ := c
      have hx : ∀ z ∈ args.toList, ρ z = ρ' z := fun z hz => hρ z (by cases callee <;> simp [Op.operands, Call.operands] <;> first | exact .inr (by simpa using hz) | simpa using hz)
      cases callee with
      | value f =>
        simp only [effW]; rw [argsV_congr _ _ hx, hρ f (by simp [Op.operands, Call.operands])]
      | invoke a b => rfl
      | builtin b =>
        cases b <;> try rfl
        case append =>
          simp only [effW]
          split
          · rename_i t t2 r x y h1 h2
            rw [typed_congr (hx x (by rw [h2]; simp)), typed_congr (hx y (by rw [h2]; simp))]
          · rfl
        case copy =>
          simp only [effW]
          split
          · rename_i t t2 r x y h1 h2
            rw [typed_congr (hx x (by rw [h2]; simp)), typed_congr (hx y (by rw [h2]; simp))]
          · rfl
        case len =>
          simp only [effW]
          split
          · rename_i t r x h1 h2
            rw [hx x (by rw [h2]; simp)]
          · rfl
        case clear =>
          simp only [effW]
          split
          · rename_i t r x h1 h2
            rw [typed_congr (hx x (by rw [h2]; simp))]
          · rfl
  rw [← this]; exact hK

theorem storeW_frame {t : TypeId} {u v : V} {τ : Tr} {fr : Fr} {h : Heap} {K : Fr → Heap → Prop} (hm : ∀ d, τ.begs d → ¬ men d u) (hK : storeW P t u v (τ.app fr) h K) : storeW P t u v fr h fun f h' => K (τ.app f) h' := by
  unfold storeW at *
  split at hK <;> try exact hK.elim
  split at hK <;> try exact hK.elim
  split at hK
  · exact hK
  · rename_i d off
    have hd : ¬ τ.begs d := fun hb => hm d hb rfl
    rw [Tr.var hd] at hK
    refine ⟨hK.1, hK.2.1, ?_⟩
    have h2 := hK.2.2
    cases τ with
    | put e w => cases e <;> exact h2
    | beg e cs =>
      simp only [Tr.app] at h2 ⊢
      rw [lcSet_comm hd]
      exact h2
  · exact hK

theorem effW_frame {mt : Nat} {op : Op} {ty : TypeId} {ρ : Operand → V} {τ : Tr} {fr : Fr} {h : Heap} {K : V → Fr → Heap → Prop} (hm : ∀ d, τ.begs d → ∀ x ∈ op.operands.toList, ¬ men d (ρ x)) (hK : effW P mt op ty ρ (τ.app fr) h K) :
    effW P mt op ty ρ fr h fun v f h' => K v (τ.app f) h' := by
  cases op <;> try exact hK
  case makeMap t r => cases r <;> exact hK
  case binOp op t x y t2 =>
    unfold effW at *
    split at hK <;> first | exact hK.elim | (rename_i e; cases e; done) | (rename_i e; cases e; exact hK)
  case store t a x => exact storeW_frame (K := fun f h' => K .undef f h') (fun d hd => hm d hd a (by simp [Op.operands])) hK

theorem load_frame {m : Nat} {τ : Tr} {fr : Fr} {h : Heap} {t : TypeId} {v : V} (hm : ∀ d, τ.begs d → ¬ men d v) : loadQ P m (τ.app fr) h t v = loadQ P m fr h t v := by
  cases v <;> try rfl
  case lp d off => simp only [loadQ]; rw [Tr.var (fun hb => hm d hb rfl)]

/-- An operation does not see what it does not look at. -/
theorem opW_frame {o : Oper} {τ : Tr} {fr : Fr} {h : Heap} {K : Fr → Heap → Prop} (h1 : ∀ s, τ.slot = some s → s ∉ o.looksAt ops.toArray) (h2 : ∀ s, τ.slot = some s → o.dst ≠ some s)
    (hm : ∀ d, τ.begs d → ∀ x ∈ o.op.operands.toList, ¬ men d (fr.ev x)) (hK : opW P esc ops o (τ.app fr) h K) : opW P esc ops o fr h fun f h' => K (τ.app f) h' := by
  have s : Same o ops (τ.app fr) fr := fun t ht => Tr.tm (fun e => h1 t e ht)
  have hm' : ∀ d, τ.begs d → ∀ x ∈ o.op.operands.toList, ¬ men d (fr.ev x).strip := fun d hd x hx => men_strip (hm d hd x hx)
  by_cases hs : sortOf esc o = 2
  · unfold opW at *
    rw [s.guard] at hK
    cases hg : guardOf ops fr o with
    | none => rw [hg] at hK; exact hK
    | some g =>
      rw [hg, hs] at hK
      rw [hs]
      simp only at hK ⊢
      have cm : ∀ (f : Fr) (v : V), (τ.app f).put o.dst v = τ.app (f.put o.dst v) := fun f v => (Tr.comm (τ := τ) (σ := .put o.dst v) (fun d hd => by simpa [Tr.slot] using h2 d hd) f).symm
      have go : ∀ {m0 : V → V}, optNeeds none (o.op.operands.toList.map (τ.app fr).ev) (effW P (dstMode o esc) o.op o.type (fun x => ((τ.app fr).ev x).strip) (τ.app fr) h fun v fr' h' => K (fr'.put o.dst (m0 v)) h') →
          optNeeds none (o.op.operands.toList.map fr.ev) (effW P (dstMode o esc) o.op o.type (fun x => (fr.ev x).strip) fr h fun v fr' h' => K (τ.app (fr'.put o.dst (m0 v))) h') := fun {_} hk => by
        rw [s.mapEv] at hk
        rw [optNeeds_iff] at hk ⊢
        refine ⟨hk.1, ?_⟩
        have hk := effW_frame hm' (effW_congr (fun x hx => by rw [s.ev x hx]) hk.2)
        exact effW_mono hk fun v f h' _ k => by rw [← cm]; exact k
      cases g with
      | none => exact go (m0 := fun v => v) hK
      | some b =>
        cases b with
        | true => exact go (m0 := yesV P o.type true) hK
        | false => show K _ h; rw [← cm]; exact hK
  · rw [opW_iff hs] at *
    obtain ⟨σ, D, k⟩ := hK
    refine ⟨σ, D.congr s (fun m t x e => ?_) (fun _ => rfl), ?_⟩
    · have hx : x ∈ o.op.operands.toList := by rw [e]; simp [Op.operands]
      rw [s.ev x hx]
      exact load_frame fun d hd => hm' d hd x hx
    · rw [Tr.comm (fun d hd => by rw [D.slot]; exact h2 d hd)]
      exact k
end
end Jb
end

section
/- Statements, and calls. A region with a draw is handed in as a premise: JbT proves it. -/
namespace Jb
open Go Go.RowKit

def exOf : Ex → Exit
  | .normal => .normal
  | .exit id => .exit id
  | .goto l => .goto l
  | .ret => .ret

section
variable {P : Program} {S : Sim} {w : World} {h : Heap} {lm : Nat → Option Nat} {B : Nat} {fr : Fr} {a : Act} {esc : List Nat} {cf : Cfg}

/-- Whatever way a piece of code is left. -/
def GoalX (B : Nat) (h : Heap) (S : Sim) (w : World) (K : Ex → Fr → Heap → Prop) (Q : Exit → Act → World → Prop) : Prop :=
  ∀ e S' w' h' fr' lm' a', K e fr' h' → HR S' w' h' → FR B S' w' h' fr' lm' a' → Le (fun rb => B ≤ rb) h S w h' S' w' → Q (exOf e) a' w'

theorem GoalX.step {h1 : Heap} {S1 : Sim} {w1 : World} {K : Ex → Fr → Heap → Prop} {Q : Exit → Act → World → Prop} (H : HR S w h) (g : GoalX B h S w K Q) (L : Le (fun rb => B ≤ rb) h S w h1 S1 w1) : GoalX B h1 S1 w1 K Q :=
  fun e S' w' h' fr' lm' a' k H' F' L' => g e S' w' h' fr' lm' a' k H' F' (Le.trans H L L')

/-- What a region with a draw needs. -/
def Draws (P : Program) (esc : List Nat) : Prop :=
  ∀ {ro : Option Nat} {S w h lm B fr a}, HR S w h → FR B S w h fr lm a → B ≤ w.heap.size → ∀ (ops : Array Oper) (id : Nat) {K : Fr → Heap → Prop}, regW P esc ops.toList true fr h K → ∀ {Q : Exit → Act → World → Prop},
    Goal B h S w K (Q .normal) → (Code.region id ops true).wpIn (FW ro) 0 P Q a w

/-- What a loop keeps: the state behind a round. -/
def Kept (B : Nat) (h : Heap) (S : Sim) (w : World) (I : Fr → Heap → Prop) (Q : Exit → Act → World → Prop) : Exit → Act → World → Prop :=
  fun e a' w' => match e with
    | .normal => ∃ S' h' fr' lm', I fr' h' ∧ HR S' w' h' ∧ FR B S' w' h' fr' lm' a' ∧ Le (fun rb => B ≤ rb) h S w h' S' w'
    | e => Q e a' w'

theorem dropL_sub (l : List Nat) : ∀ m : List (Nat × List V), (dropL l m).Sublist m
  | [] => .slnil
  | e :: r => by
    unfold dropL
    split
    · exact (dropL_sub l r).cons e
    · exact (dropL_sub l r).cons_cons e

theorem FR.wipe (F : FR B S w h fr lm a) {l : List Nat} : FR B S w h (fr.wipe l) lm a := by
  have : ∀ (l : List Nat) {fr : Fr}, FR B S w h fr lm a → FR B S w h { fr with tm := wipeT l fr.tm } lm a := by
    intro l
    induction l with
    | nil => exact fun F => F
    | cons t l ih =>
      intro fr F
      refine ih (fr := { fr with tm := fr.tm.set t .undef })
        { size := by simp [F.size], vars := F.vars, inj := F.inj, lb := F.lb, lo := F.lo, nd := F.nd, dfs := F.dfs
          tm := fun i v hv => ?_ }
      rw [List.getElem?_set] at hv
      split at hv
      · split at hv
        · cases hv; exact Rel.undef _
        · cases hv
      · exact F.tm i v hv
  have mrel : ∀ {v : V} {x : Value}, TmRel S w lm v x → TmRel S w lm (mutV v) x := by
    intro v x hv
    unfold mutV
    split
    · rename_i es
      cases (show Rel S w (.sl es [] .full) x from hv) with
      | slnil => exact Rel.srefnil _ _ _ _
      | sl _ _ _ rb o cap xs hes hcap hg _ _ _ =>
        have : cap = 0 := hg
        subst this
        exact Rel.srefnil _ _ _ _
    · exact hv
  have that : ∀ (l : List Nat) {fr : Fr}, FR B S w h fr lm a → FR B S w h { fr with tm := mutT l fr.tm } lm a := by
    intro l
    induction l with
    | nil => exact fun F => F
    | cons t l ih =>
      intro fr F
      unfold mutT
      split
      · refine ih (fr := { fr with tm := fr.tm.set (t - 1000000) (mutV (fr.tm.getD (t - 1000000) .undef)) })
          { size := by simp [F.size], vars := F.vars, inj := F.inj, lb := F.lb, lo := F.lo, nd := F.nd, dfs := F.dfs
            tm := fun i v hv => ?_ }
        rw [List.getElem?_set] at hv
        split at hv
        · split at hv
          · rename_i hi hlt
            cases hv
            refine mrel ?_
            subst hi
            have hlt' : t - 1000000 < fr.tm.length := hlt
            have := F.tm _ _ (List.getElem?_eq_getElem hlt')
            simpa [List.getD, List.getElem?_eq_getElem hlt'] using this
          · cases hv
        · exact F.tm i v hv
      · exact ih F
  have F := that l (this l F)
  exact { size := F.size, tm := F.tm, inj := F.inj, lb := F.lb, lo := F.lo, dfs := F.dfs
          vars := fun e he => F.vars e ((dropL_sub l fr.lc).subset he)
          nd := F.nd.sublist ((dropL_sub l fr.lc).map _) }

theorem loop_sound {ro : Option Nat} {c : Code} (hc : ∀ {S w h lm fr a} {K : Ex → Fr → Heap → Prop} {Q : Exit → Act → World → Prop}, HR S w h → FR B S w h fr lm a → B ≤ w.heap.size → wpA P cf c fr h K → GoalX B h S w K Q → c.wpIn (FW ro) 0 P Q a w)
    {K : Ex → Fr → Heap → Prop} {Q : Exit → Act → World → Prop} (hl : LoopI (fun fr h Q => wpA P cf c fr h Q) K fr h) :
    ∀ {S w lm a}, HR S w h → FR B S w h fr lm a → B ≤ w.heap.size → GoalX B h S w K Q → ∀ (b : Frame) (k : List Item) (cs : List Frame), b.roundOf = ro →
      ∃ e a' w', Q e a' w' ∧ ArrivesIn (Machine.fenced P (FW ro)) P (lone (b.atR a (.code c :: .inLoop c :: k)) cs w) b k cs e a' w' := by
  induction hl with
  | mk fr h I hb hi ih =>
    intro S w lm a H F hB g b k cs hro
    have hk : c.wpIn (FW ro) 0 P (Kept B h S w I Q) a w := by
      refine hc H F hB hb ?_
      intro e S' w' h' fr' lm' a' hk H' F' L'
      cases e with
      | normal => exact ⟨S', h', fr', lm', hk, H', F', L'⟩
      | exit id => exact g (.exit id) S' w' h' fr' lm' a' hk H' F' L'
      | goto l => exact g (.goto l) S' w' h' fr' lm' a' hk H' F' L'
      | ret => exact g .ret S' w' h' fr' lm' a' hk H' F' L'
    have hroom : ∀ n, (FW ro).room n := fun n d hd => by cases hd
    obtain ⟨e, a₁, w₁, hq, harr⟩ := hk b (.inLoop c :: k) cs hro trivial (hroom _)
    cases e with
    | normal =>
      obtain ⟨S', h', fr', lm', hI, H', F', L'⟩ := hq
      obtain ⟨e₂, a₂, w₂, hq₂, harr₂⟩ := ih fr' h' hI H' F' (Nat.le_trans hB L'.size) (g.step H L') b k cs hro
      exact ⟨e₂, a₂, w₂, hq₂, .of_steps (StepsIn.trans harr (.one (fenced_calm (n := 0) trivial (hroom _) rfl) stepR_inLoop)) harr₂⟩
    | exit id => exact ⟨_, a₁, w₁, hq, .pass (x := .inLoop c) rfl (fun _ _ => .inl (by simp)) harr⟩
    | goto l => exact ⟨_, a₁, w₁, hq, .pass (x := .inLoop c) rfl (fun _ _ => .inl (by simp)) harr⟩
    | ret => exact ⟨_, a₁, w₁, hq, .pass (x := .inLoop c) rfl (fun _ _ => .inl (by simp)) harr⟩
    | panic ch => exact ⟨_, a₁, w₁, hq, .pass (x := .inLoop c) rfl (fun _ _ => .inl (by simp)) harr⟩
    | outgrown => exact ⟨_, a₁, w₁, hq, .pass (x := .inLoop c) rfl (fun _ _ => .inl (by simp)) harr⟩

theorem noLp_rel {v : V} {x : Value} (hv : TmRel S w lm v x) : Rel S w (noLp v) x := by
  cases v <;> first | exact Rel.undef _ | exact hv

/-- A range over a function. -/
theorem range_sound {f : Operand} {ps : Array Tmp} {asg body : Code} (H : HR S w h) (F : FR B S w h fr lm a) (hB : B ≤ w.heap.size) {K : Ex → Fr → Heap → Prop} {Q : Exit → Act → World → Prop}
    (hK : rangeW P false (fr.ev f) ps asg body fr h K) (g : GoalX B h S w K Q) : (Code.rangeFunc f ps asg body).wpIn (FW none) 0 P Q a w := by
  have hv := F.ev f
  unfold rangeW at hK
  split at hK
  case h_2 => exact hK.elim
  rename_i k first caps _ hf
  obtain ⟨he, hK⟩ := hK
  rw [hf] at hv
  have hv : Rel S w (.fn (.func k) first caps) (a.eval f) := hv
  generalize hev : a.eval f = fv at hv
  cases hv with
  | fn _ _ _ xs ys h1 h2 hx hy =>
  refine wpIn_rangeFunc ?_
  intro fn _
  -- the mark's block; the record
  obtain ⟨H1, L1⟩ := priv_new H (.deferred (some []))
  have hD : (w.alloc (.deferred (some []))).heap[w.heap.size]? = some (.deferred (some [])) := World.alloc_heap_new w _
  have hsz : (w.alloc (.deferred (some []))).heap.size = w.heap.size + 1 := World.size_alloc _ _
  obtain ⟨rec, hrec0⟩ : ∃ rec : Loop, rec = { state := .ready, pending := none, fn, tmps := a.tmps, params := ps, assign := asg, body, defers := w.heap.size } := ⟨_, rfl⟩
  have hent := run_enterLoop_outer (P := P) (w := w) fn a.tmps ps asg body
  rw [← hrec0] at hent
  have hq : OQRel (S.addCell w.heap.size) (w.alloc (.deferred (some []))) (.loop .ready ps.toList (fr.tm.map noLp) asg body) (.loop rec) := by
    subst hrec0
    refine ⟨_, rfl, rfl, rfl, rfl, ⟨by simp [F.size], fun i v x hv hx => ?_⟩, rfl, rfl⟩
    rw [List.getElem?_map] at hv
    obtain ⟨u, hu, rfl⟩ := Option.map_eq_some_iff.1 hv
    have := F.tm i u hu
    have e : a.tmps.getD i Go.undef = x := by
      rw [Array.getElem?_toList] at hx
      simp [Array.getD_eq_getD_getElem?, hx]
    rw [e] at this
    exact (noLp_rel this).mono L1.toExt
  obtain ⟨H2, L2⟩ := obj_new H1 (.loop rec) _ hq
  rw [hsz] at H2 L2
  have hl : h (w.heap.size + 1) = none := by
    have := H1.none
    rwa [hsz] at this
  have hcall := hK (w.heap.size + 1) hl _ _ (xs ++ [.func (.yield (w.heap.size + 1)) #[] #[]] ++ ys) H2 (by
    refine RelL.append (RelL.append ?_ ?_) ?_
    · exact (show RelL S w first xs from ⟨h1, hx⟩).mono (L1.toExt.trans L2.toExt)
    · exact .cons (.fn _ _ _ [] [] rfl rfl (by simp) (by simp)) .nil
    · exact (show RelL S w caps ys from ⟨h2, hy⟩).mono (L1.toExt.trans L2.toExt))
  have L12 : Le (fun rb => B ≤ rb) h S w (h.upd (w.heap.size + 1) (.obj (.loop .ready ps.toList (fr.tm.map noLp) asg body))) ((S.addCell w.heap.size).addCell (w.heap.size + 1))
      ((w.alloc (.deferred (some []))).alloc (.loop rec)) := (Le.trans H L1 L2).weaken _
  obtain ⟨W2, hW2⟩ : ∃ W2, W2 = (w.alloc (.deferred (some []))).alloc (.loop rec) := ⟨_, rfl⟩
  rw [← hW2] at hcall L12 hent H2 L2
  have hsz2 : W2.heap.size = w.heap.size + 1 + 1 := by rw [hW2, World.size_alloc, hsz]
  have hD2 : W2.heap[w.heap.size]? = some (.deferred (some [])) := by rw [hW2, alloc_get _ _ (by rw [hsz]; omega)]; exact hD
  have hres : (resolve ({ tmps := a.tmps, defers := a.defers } : Act).eval (rangeCall f (w.heap.size + 1)) 0).run P W2 = .ok { target := .fn (.func k) ys.toArray, args := xs.toArray ++ #[Value.func (.yield (w.heap.size + 1)) #[] #[]] } W2 := by
    simp only [resolve, rangeCall]
    rw [show ({ tmps := a.tmps, defers := a.defers } : Act).eval f = a.eval f from rfl, hev]
    simp [Deferred.ofValue, Act.eval]
  have hinv : (invoke (.fn (.func k) ys.toArray) (xs.toArray ++ #[Value.func (.yield (w.heap.size + 1)) #[] #[]])).run P W2 = .ok (.enter k (xs ++ [Value.func (.yield (w.heap.size + 1)) #[] #[]] ++ ys).toArray) W2 := by
    have harr : (xs.toArray ++ #[Value.func (.yield (w.heap.size + 1)) #[] #[]]) ++ ys.toArray = (xs ++ [Value.func (.yield (w.heap.size + 1)) #[] #[]] ++ ys).toArray := by apply Array.ext'; simp
    rw [← harr]
    have := callFunc_enters (P := P) (w := W2) he ((xs.toArray ++ #[Value.func (.yield (w.heap.size + 1)) #[] #[]]) ++ ys.toArray)
    simpa [invoke] using this
  refine ⟨w.heap.size + 1, [{ target := .collected w.heap.size, args := #[] }], W2, { target := .fn (.func k) ys.toArray, args := xs.toArray ++ #[Value.func (.yield (w.heap.size + 1)) #[] #[]] }, W2, k,
    (xs ++ [Value.func (.yield (w.heap.size + 1)) #[] #[]] ++ ys).toArray, W2, hent, hres, fun _ _ => trivial, hinv, FW.deep, ?_⟩
  refine callsIn_wide.2 (hcall.mono ?_)
  clear hcall hres hinv hent
  · rintro e w3 ⟨r, x, h3, S3, rfl, hk, H3, _, L3⟩
    have L123 := Le.trans H L12 (L3.weaken (fun rb => B ≤ rb))
    -- the frame, with the mark
    have F2 : FR B S w h fr lm a := F
    have Fl : FR B S3 w3 h3 fr lm { a with defers := { target := .collected w.heap.size, args := #[] } :: a.defers } := by
      have Fa := ((F.le H L1).le H1 L2).le H2 L3
      refine { size := Fa.size, tm := Fa.tm, vars := Fa.vars, inj := Fa.inj, lb := Fa.lb, lo := Fa.lo, nd := Fa.nd, dfs := ⟨fun d hd => ?_, List.pairwise_cons.2 ⟨fun d hd => ?_, Fa.dfs.2⟩⟩ }
      rotate_left
      · obtain ⟨D, rfl, _, g3, _, _⟩ := F.dfs.1 d hd
        intro e
        injection e with e _
        injection e with e
        have := H.lt g3
        omega
      rcases List.mem_cons.1 hd with rfl | hd
      · have hne : ¬ Blk (h.upd (w.heap.size + 1) (.obj (.loop .ready ps.toList (fr.tm.map noLp) asg body))) w.heap.size := by
          rintro ⟨o, ho, _⟩
          simp only [Heap.upd, show w.heap.size ≠ w.heap.size + 1 by omega, if_false] at ho
          rw [H.none] at ho; cases ho
        have own0 : ((S.addCell w.heap.size).addCell (w.heap.size + 1)).own w.heap.size = some .cell := by simp [Sim.addCell]
        obtain ⟨g1, g2⟩ := L3.priv w.heap.size own0 (fun f => f) hne
        refine ⟨w.heap.size, rfl, hB, g2, fun hb => hne (L3.dom _ (by rw [hsz2]; omega) hb), ?_⟩
        rw [g1]
        exact hD2
      · exact Fa.dfs.1 d hd
    -- the record's end
    unfold loopEnd at hk
    split at hk
    · rename_i ps' tm' asg' body' hrec
      obtain ⟨_, o, ho, r', rfl, _, _, _, _, hst, hpe⟩ := H3.obs _ _ hrec
      obtain ⟨H4, L4⟩ := obj_end H3 hrec (.loop { r' with state := .exhausted })
      have hend := run_endLoop (P := P) ho (by rw [hst]; simp)
      generalize w3.putObj _ _ = W3 at hend H4 L4
      refine ⟨r'.pending, _, hend, ?_⟩
      rw [hpe]
      exact g .normal _ _ _ _ _ _ hk H4 (Fl.le H3 L4) (Le.trans H L123 (L4.weaken _))
    · rename_i c ps' tm' asg' body' hrec
      obtain ⟨_, o, ho, r', rfl, _, _, _, _, hst, hpe⟩ := H3.obs _ _ hrec
      obtain ⟨H4, L4⟩ := obj_end H3 hrec (.loop { r' with state := .exhausted })
      have hend := run_endLoop (P := P) ho (by rw [hst]; simp)
      generalize w3.putObj _ _ = W3 at hend H4 L4
      refine ⟨r'.pending, _, hend, ?_⟩
      rw [hpe]
      split at hk
      · rename_i e hc
        have hgo := g e _ _ _ _ _ _ hk H4 (Fl.le H3 L4) (Le.trans H L123 (L4.weaken _))
        cases c <;> simp only [exOfC, Option.some.injEq] at hc <;> try (cases hc; done)
        · subst hc; exact wpIn_exit hgo
        · subst hc; exact wpIn_goto hgo
        · subst hc; exact wpIn_ret hgo
      · exact hk.elim
    · exact hk.elim

theorem hasLab_iff : ∀ {c : Code} {l : Nat}, hasLab c l = true ↔ ∃ rest, findLabel c l = some rest := by
  intro c
  induction c with
  | seq a b ia ib =>
    intro l
    simp only [hasLab, Bool.or_eq_true, ia, ib, findLabel]
    cases findLabel a l with
    | none => simp
    | some r => simp
  | label k =>
    intro l
    simp only [hasLab, findLabel]
    by_cases e : k = l
    · subst e; simp
    · have : Nat.beq k l = false := by cases hb : Nat.beq k l with | false => rfl | true => exact (e (Nat.eq_of_beq_eq_true hb)).elim
      simp [this, e]
  | _ => intro l; simp [hasLab, findLabel]

theorem stepR_scope {b : Frame} {k : List Item} {cs : List Frame} {c : Code} : step P (lone (b.atR a (.code (.scope c) :: k)) cs w) = .next (lone (b.atR a (.code c :: .inScope c :: k)) cs w) :=
  step_lone_go (by simp [stepG, stepG.exec, Frame.atR])
theorem stepR_inScope {b : Frame} {k : List Item} {cs : List Frame} {c : Code} : step P (lone (b.atR a (.inScope c :: k)) cs w) = .next (lone (b.atR a k) cs w) :=
  step_lone_go (by simp [stepG, stepG.exec, Frame.atR])

/-- What stands behind a round of a scope. -/
def KeptS (B : Nat) (c : Code) (h : Heap) (S : Sim) (w : World) (I : Nat → Fr → Heap → Prop) (Q : Exit → Act → World → Prop) : Exit → Act → World → Prop
  | .goto l, a', w' => (hasLab c l = true ∧ ∃ S' h' fr' lm', I l fr' h' ∧ HR S' w' h' ∧ FR B S' w' h' fr' lm' a' ∧ Le (fun rb => B ≤ rb) h S w h' S' w') ∨ (hasLab c l = false ∧ Q (.goto l) a' w')
  | e, a', w' => Q e a' w'

theorem keptS_of {c : Code} {I : Nat → Fr → Heap → Prop} {K : Ex → Fr → Heap → Prop} {Q : Exit → Act → World → Prop} (g : GoalX B h S w K Q) : GoalX B h S w (scopeK c I K) (KeptS B c h S w I Q) := by
  intro e S' w' h' fr' lm' a' hk H' F' L'
  cases e with
  | normal => exact g .normal S' w' h' fr' lm' a' hk H' F' L'
  | exit id => exact g (.exit id) S' w' h' fr' lm' a' hk H' F' L'
  | ret => exact g .ret S' w' h' fr' lm' a' hk H' F' L'
  | goto l =>
    simp only [scopeK] at hk
    split at hk
    · rename_i hl; exact .inl ⟨hl, S', h', fr', lm', hk, H', F', L'⟩
    · rename_i hl; exact .inr ⟨hl, g (.goto l) S' w' h' fr' lm' a' hk H' F' L'⟩

/-- A round of a scope, and those behind it. -/
theorem scope_round {ro : Option Nat} {c : Code} {I : Nat → Fr → Heap → Prop} {Q : Exit → Act → World → Prop} {x : Code} (hx : x.wpIn (FW ro) 0 P (KeptS B c h S w I Q) a w)
    (next : ∀ {S' w' h' fr' lm' a'} (l : Nat) (rest : Code), findLabel c l = some rest → I l fr' h' → HR S' w' h' → FR B S' w' h' fr' lm' a' → Le (fun rb => B ≤ rb) h S w h' S' w' → ∀ (b : Frame) (k : List Item) (cs : List Frame), b.roundOf = ro →
      ∃ e a'' w'', Q e a'' w'' ∧ ArrivesIn (Machine.fenced P (FW ro)) P (lone (b.atR a' (.code rest :: .inScope c :: k)) cs w') b k cs e a'' w'') (b : Frame) (k : List Item) (cs : List Frame) (hro : b.roundOf = ro) :
    ∃ e a' w', Q e a' w' ∧ ArrivesIn (Machine.fenced P (FW ro)) P (lone (b.atR a (.code x :: .inScope c :: k)) cs w) b k cs e a' w' := by
  have hroom : ∀ n, (FW ro).room n := fun n d hd => by cases hd
  obtain ⟨e, a₁, w₁, hq, harr⟩ := hx b (.inScope c :: k) cs hro trivial (hroom _)
  cases e with
  | normal => exact ⟨.normal, a₁, w₁, hq, StepsIn.trans harr (.one (fenced_calm (n := 0) trivial (hroom _) rfl) stepR_inScope)⟩
  | exit id =>
    have hx : exitTo id (.inScope c :: k) = exitTo id k := by simp [exitTo]
    exact ⟨.exit id, a₁, w₁, hq, fun k' hk => harr.1 k' (by rw [hx]; exact hk), fun hr' hk => harr.2 hr' (by rw [hx]; exact hk)⟩
  | goto l =>
    rcases hq with ⟨hl, S', h', fr', lm', hI, H', F', L'⟩ | ⟨hl, hq⟩
    · obtain ⟨rest, hf⟩ := hasLab_iff.1 hl
      have hg : gotoIn l (.inScope c :: k) = some (.code rest :: .inScope c :: k) := by simp [gotoIn, hf]
      obtain ⟨e₂, a₂, w₂, hq₂, harr₂⟩ := next l rest hf hI H' F' L' b k cs hro
      exact ⟨e₂, a₂, w₂, hq₂, .of_steps (harr.1 _ hg) harr₂⟩
    · have hf : findLabel c l = none := by
        cases hf : findLabel c l with
        | none => rfl
        | some r => rw [hasLab_iff.2 ⟨r, hf⟩] at hl; cases hl
      have hx : gotoIn l (.inScope c :: k) = gotoIn l k := by simp [gotoIn, hf]
      exact ⟨.goto l, a₁, w₁, hq, fun k' hk => harr.1 k' (by rw [hx]; exact hk), fun hr' hk => harr.2 hr' (by rw [hx]; exact hk)⟩
  | ret => exact ⟨_, a₁, w₁, hq, harr⟩
  | panic ch => exact ⟨_, a₁, w₁, hq, harr⟩
  | outgrown => exact ⟨_, a₁, w₁, hq, harr⟩

theorem scope_sound {ro : Option Nat} {c : Code} (hc : ∀ (l : Nat) (rest : Code), findLabel c l = some rest → ∀ {S w h lm fr a} {K : Ex → Fr → Heap → Prop} {Q : Exit → Act → World → Prop}, HR S w h → FR B S w h fr lm a → B ≤ w.heap.size →
      wpL P cf c l fr h K → GoalX B h S w K Q → rest.wpIn (FW ro) 0 P Q a w)
    {K : Ex → Fr → Heap → Prop} {Q : Exit → Act → World → Prop} {l : Nat} (hl : ScopeI c (fun l fr h Q => wpL P cf c l fr h Q) K l fr h) :
    ∀ (rest : Code), findLabel c l = some rest → ∀ {S w lm a}, HR S w h → FR B S w h fr lm a → B ≤ w.heap.size → GoalX B h S w K Q → ∀ (b : Frame) (k : List Item) (cs : List Frame), b.roundOf = ro →
      ∃ e a' w', Q e a' w' ∧ ArrivesIn (Machine.fenced P (FW ro)) P (lone (b.atR a (.code rest :: .inScope c :: k)) cs w) b k cs e a' w' := by
  induction hl with
  | mk l fr h I hb hi ih =>
    intro rest hf S w lm a H F hB g b k cs hro
    refine scope_round (I := I) (hc l rest hf H F hB hb (keptS_of g)) ?_ b k cs hro
    intro S' w' h' fr' lm' a' l' rest' hf' hI H' F' L' b k cs hro
    exact ih l' fr' h' hI rest' hf' H' F' (Nat.le_trans hB L'.size) (g.step H L') b k cs hro

theorem wpAL_sound (hd : Draws P cf.esc) {ro : Option Nat} (hro : cf.rnd = ro.isSome) (c : Code) :
    (∀ {S w h lm B fr a} {K : Ex → Fr → Heap → Prop} {Q : Exit → Act → World → Prop}, HR S w h → FR B S w h fr lm a → B ≤ w.heap.size → wpA P cf c fr h K → GoalX B h S w K Q → c.wpIn (FW ro) 0 P Q a w) ∧
    (∀ (l : Nat) (rest : Code), findLabel c l = some rest → ∀ {S w h lm B fr a} {K : Ex → Fr → Heap → Prop} {Q : Exit → Act → World → Prop}, HR S w h → FR B S w h fr lm a → B ≤ w.heap.size → wpL P cf c l fr h K → GoalX B h S w K Q → rest.wpIn (FW ro) 0 P Q a w) := by
  induction c with
  | seq x y ihx ihy =>
    constructor
    · intro S w h lm B fr a K Q H F hB hK g
      unfold wpA at hK
      refine wpIn_seq (ihx.1 H F hB hK ?_)
      intro e S' w' h' fr' lm' a' hk H' F' L'
      cases e with
      | normal => exact ihy.1 H' F' (Nat.le_trans hB L'.size) hk (g.step H L')
      | exit id => exact g (.exit id) S' w' h' fr' lm' a' hk H' F' L'
      | goto l => exact g (.goto l) S' w' h' fr' lm' a' hk H' F' L'
      | ret => exact g .ret S' w' h' fr' lm' a' hk H' F' L'
    · intro l rest hf S w h lm B fr a K Q H F hB hK g
      unfold wpL at hK
      simp only [findLabel] at hf
      split at hK
      · rename_i hl
        obtain ⟨r, hr⟩ := hasLab_iff.1 hl
        rw [hr] at hf
        cases hf
        refine wpIn_seq (ihx.2 l r hr H F hB hK ?_)
        intro e S' w' h' fr' lm' a' hk H' F' L'
        cases e with
        | normal => exact ihy.1 H' F' (Nat.le_trans hB L'.size) hk (g.step H L')
        | exit id => exact g (.exit id) S' w' h' fr' lm' a' hk H' F' L'
        | goto l => exact g (.goto l) S' w' h' fr' lm' a' hk H' F' L'
        | ret => exact g .ret S' w' h' fr' lm' a' hk H' F' L'
      · rename_i hl
        have hn : findLabel x l = none := by
          cases hf' : findLabel x l with
          | none => rfl
          | some r => rw [hasLab_iff.2 ⟨r, hf'⟩] at hl; cases hl
        rw [hn] at hf
        exact ihy.2 l rest hf H F hB hK g
  | label k =>
    refine ⟨fun H F hB hK g => wpIn_label (g .normal _ _ _ _ _ _ (by unfold wpA at hK; exact hK) H F (Le.refl _ _ _ _)), ?_⟩
    intro l rest hf S w h lm B fr a K Q H F hB hK g
    unfold wpL at hK
    simp only [findLabel] at hf
    split at hf
    · cases hf; exact wpIn_skip (g .normal _ _ _ _ _ _ hK H F (Le.refl _ _ _ _))
    · cases hf
  | skip => exact ⟨fun H F hB hK g => wpIn_skip (g .normal _ _ _ _ _ _ (by unfold wpA at hK; exact hK) H F (Le.refl _ _ _ _)), fun l rest hf => by simp [findLabel] at hf⟩
  | exit id => exact ⟨fun H F hB hK g => wpIn_exit (g (.exit id) _ _ _ _ _ _ (by unfold wpA at hK; exact hK) H F (Le.refl _ _ _ _)), fun l rest hf => by simp [findLabel] at hf⟩
  | goto id => exact ⟨fun H F hB hK g => wpIn_goto (g (.goto id) _ _ _ _ _ _ (by unfold wpA at hK; exact hK) H F (Le.refl _ _ _ _)), fun l rest hf => by simp [findLabel] at hf⟩
  | ret => exact ⟨fun H F hB hK g => wpIn_ret (g .ret _ _ _ _ _ _ (by unfold wpA at hK; exact hK) H F (Le.refl _ _ _ _)), fun l rest hf => by simp [findLabel] at hf⟩
  | region id ops draw =>
    refine ⟨?_, fun l rest hf => by simp [findLabel] at hf⟩
    intro S w h lm B fr a K Q H F hB hK g
    unfold wpA at hK
    cases draw with
    | false => exact region_sound H F hB ops id hK (fun S' w' h' fr' lm' a' k H' F' L' => g .normal S' w' h' _ lm' a' k H' F'.wipe L')
    | true => exact hd H F hB ops id hK (fun S' w' h' fr' lm' a' k H' F' L' => g .normal S' w' h' _ lm' a' k H' F'.wipe L')
  | cond c x y ihx ihy =>
    refine ⟨?_, fun l rest hf => by simp [findLabel] at hf⟩
    intro S w h lm B fr a K Q H F hB hK g
    unfold wpA at hK
    have hv := F.ev c
    generalize fr.ev c = v at hK hv
    cases v <;> try exact hK.elim
    rename_i b
    have hv : Rel S w (.bool b) (a.eval c) := hv
    generalize hx : a.eval c = z at hv
    cases hv
    refine wpIn_cond (t := b) hx ?_
    cases b with
    | true => exact ihx.1 H F hB hK g
    | false => exact ihy.1 H F hB hK g
  | block id c ih =>
    refine ⟨?_, fun l rest hf => by simp [findLabel] at hf⟩
    intro S w h lm B fr a K Q H F hB hK g
    unfold wpA at hK
    refine wpIn_block (ih.1 H F hB hK ?_)
    intro e S' w' h' fr' lm' a' hk H' F' L'
    cases e with
    | normal => exact g .normal S' w' h' fr' lm' a' hk H' F' L'
    | exit i =>
      simp only [exOf, Exit.inBlock]
      simp only [blockK] at hk
      split at hk
      · rename_i hi
        rw [if_pos (Nat.eq_of_beq_eq_true hi)]
        exact g .normal S' w' h' fr' lm' a' hk H' F' L'
      · rename_i hi
        rw [if_neg (by rintro rfl; rw [Nat.beq_refl] at hi; cases hi)]
        exact g (.exit i) S' w' h' fr' lm' a' hk H' F' L'
    | goto l => exact g (.goto l) S' w' h' fr' lm' a' hk H' F' L'
    | ret => exact g .ret S' w' h' fr' lm' a' hk H' F' L'
  | loop c ih =>
    refine ⟨?_, fun l rest hf => by simp [findLabel] at hf⟩
    intro S w h lm B fr a K Q H F hB hK g b k cs hb hf hroom
    unfold wpA at hK
    obtain ⟨e, a', w', hq, harr⟩ := loop_sound (B := B) (ro := ro) (fun {S w h lm fr a K Q} => ih.1) hK H F hB g b k cs hb
    exact ⟨e, a', w', hq, .of_steps (.one (fenced_calm (n := 0) hf hroom rfl) stepR_loop) harr⟩
  | scope c ih =>
    refine ⟨?_, fun l rest hf => by simp [findLabel] at hf⟩
    intro S w h lm B fr a K Q H F hB hK g b k cs hb hf hroom
    unfold wpA at hK
    obtain ⟨e, a', w', hq, harr⟩ := scope_round (ih.1 H F hB hK (keptS_of g)) (fun {S' w' h' fr' lm' a'} l' rest' hf' hI H' F' L' b k cs hro =>
      scope_sound (fun l rest hf {S w h lm fr a K Q} => ih.2 l rest hf) hI rest' hf' H' F' (Nat.le_trans hB L'.size) (g.step H L') b k cs hro) b k cs hb
    exact ⟨e, a', w', hq, .of_steps (.one (fenced_calm (n := 0) hf hroom rfl) stepR_scope) harr⟩
  | rangeFunc f ps zs b _ _ =>
    refine ⟨?_, fun l rest hf => by simp [findLabel] at hf⟩
    intro S w h lm B fr a K Q H F hB hK g
    unfold wpA at hK
    cases ro with
    | none => rw [hro] at hK; exact range_sound H F hB hK g
    | some l => rw [hro] at hK; unfold rangeW at hK; exact hK.elim
  | refuse s => exact ⟨fun _ _ _ hK _ => by unfold wpA at hK; exact hK.elim, fun l rest hf => by simp [findLabel] at hf⟩

theorem wpA_sound (hd : Draws P cf.esc) {ro : Option Nat} (hro : cf.rnd = ro.isSome) (c : Code) : ∀ {S w h lm B fr a} {K : Ex → Fr → Heap → Prop} {Q : Exit → Act → World → Prop}, HR S w h → FR B S w h fr lm a → B ≤ w.heap.size → wpA P cf c fr h K → GoalX B h S w K Q → c.wpIn (FW ro) 0 P Q a w :=
  (wpAL_sound hd hro c).1

/-- What a result variable gives. -/
def resRun (tmps : Array Value) : ResultVar → Sem Value
  | .tmp t => pure (tmps.getD t Go.undef)
  | .cell b t => do loadVar t (← asAddr (tmps.getD b Go.undef))

theorem result_sound {m : Nat} (H : HR S w h) (F : FR B S w h fr lm a) (r : ResultVar) {K : V → Prop} (hK : (resultV P m fr h r).need K) :
    ∃ v x, K v ∧ Rel S w v x ∧ (resRun a.tmps r).run P w = .ok x w := by
  cases r with
  | tmp t =>
    have hv := F.ev (.tmp t)
    simp only [Fr.ev, Act.eval] at hv
    simp only [resultV] at hK
    split at hK
    · exact hK.elim
    · rename_i b v hb
      rw [hb] at hv
      split at hK
      · exact hK.elim
      · exact hK.elim
      · rename_i h1 h2
        have hv1 := hv.1 hK.1
        refine ⟨_, _, hK.2, ?_, rfl⟩
        cases v <;> first | exact hv1 | exact (h1 _ _ rfl).elim | exact (h2 _ _ rfl).elim
    · rename_i h1 h2
      refine ⟨_, _, hK, ?_, rfl⟩
      generalize fr.tm.getD t .undef = v at h1 h2 hv
      cases v <;> first | exact hv | exact (h1 _ _ rfl).elim | exact (h2 _ _ rfl).elim
  | cell b t =>
    have hv := F.ev (.tmp b)
    simp only [Fr.ev, Act.eval] at hv
    simp only [resultV] at hK
    have key : ∀ u p, fr.tm.getD b .undef = u → a.tmps.getD b Go.undef = .pointer (some p) → (loadQ P m fr h t u).need K → ∃ v x, K v ∧ Rel S w v x ∧ ((do loadVar t (← asAddr (a.tmps.getD b Go.undef)) : Sem Value)).run P w = .ok x w := by
      intro u p hu hp hq
      rw [hu] at hv
      have := load_sound (P := P) H F m t hv
      cases hl : loadQ P m fr h t u with
      | ok v => rw [hl] at this; exact this.elim
      | bad => rw [hl] at hq; exact hq.elim
      | chk c v =>
        rw [hl] at this hq
        obtain ⟨x, hx, hr⟩ := this hq.1
        rw [hp] at hx ⊢
        refine ⟨v, x, hq.2, hr, ?_⟩
        simpa [Instr.loadAt, Instr.sureAddr, asAddr] using hx
    split at hK
    · rename_i d off e
      have hv' := hv
      rw [e] at hv'
      obtain ⟨rb, _, hx⟩ := hv'
      exact key _ _ e hx hK
    · rename_i l off e
      have hv' : Rel S w (.ptr l off) (a.tmps.getD b Go.undef) := by rw [e] at hv; exact hv
      generalize hx : a.tmps.getD b Go.undef = x at hv'
      cases hv'
      exact key _ _ e hx hK
    · exact hK.elim

theorem results_sound {m : Nat} (H : HR S w h) (F : FR B S w h fr lm a) : ∀ (rs : List ResultVar) {K : List V → Prop}, resultsW P m fr h rs K →
    ∃ vs xs, K vs ∧ RelL S w vs xs ∧ (rs.mapM (resRun a.tmps)).run P w = .ok xs w
  | [], K, hK => ⟨[], [], hK, .nil, rfl⟩
  | r :: rs, K, hK => by
    obtain ⟨v, x, hK, hr, hrun⟩ := result_sound H F r hK
    obtain ⟨vs, xs, hK, hrs, hruns⟩ := results_sound H F rs hK
    refine ⟨v :: vs, x :: xs, hK, .cons hr hrs, ?_⟩
    rw [List.mapM_cons]
    simp only [Sem.run_bind, hrun, Result.andThen_ok, hruns, Sem.run_pure]

def resV : List V → V
  | [v] => v
  | vs => .tup vs

theorem answer_sound {m : Nat} (H : HR S w h) (F : FR B S w h fr lm a) (fn : Func) {K : V → Prop} (hK : answerW P m fn fr h K) : ∃ v x, K v ∧ Rel S w v x ∧ (results fn a.tmps).run P w = .ok x w := by
  obtain ⟨vs, xs, hK, hr, hrun⟩ := results_sound H F fn.results.toList hK
  have h2 : (results fn a.tmps).run P w = .ok (if h : xs.toArray.size = 1 then xs.toArray[0] else .tuple xs.toArray) w := by
    have e : results fn a.tmps = (do let vs ← fn.results.mapM (resRun a.tmps); pure (if h : vs.size = 1 then vs[0] else .tuple vs) : Sem Value) := by
      unfold results
      congr 1
    rw [e, Array.mapM_eq_mapM_toList]
    simp only [Sem.run_bind, map_eq_pure_bind, hrun, Result.andThen_ok, Sem.run_pure]
  have hK' : K (resV vs) := by
    revert hK
    match vs with
    | [] => exact id
    | [v] => exact id
    | _ :: _ :: _ => exact id
  refine ⟨_, _, hK', ?_, h2⟩
  obtain ⟨hl, hr⟩ := hr
  match vs, xs, hl, hr with
  | [], [], _, _ => exact Rel.tup [] [] rfl (by simp)
  | [v], [x], _, hr => exact hr 0 v x rfl rfl
  | u :: v :: vs, x :: y :: xs, hl, hr => exact Rel.tup _ _ hl hr

/-- Who ends a frame: its own variables are nobody's. -/
theorem Le.narrow {h' : Heap} {S' : Sim} {w' : World} (H : HR S w h) (L : Le (fun rb => w.heap.size ≤ rb) h S w h' S' w') : Le (fun _ => False) h S w h' S' w' :=
  { toExt := L.toExt, os := L.os, tape := L.tape, output := L.output, size := L.size, un := L.un, dom := L.dom, all := L.all, stays := L.stays
    priv := fun rb e _ hh => L.priv rb e (by have := H.lt e; omega) hh }

theorem frame0_rel (fn : Func) (args : List V) (xs : List Value) (hr : RelL S w args xs) (hn : args.length ≤ fn.ntmps) :
    FR w.heap.size S w h (frame0 fn args) (fun _ => none) { tmps := xs.toArray ++ Array.replicate (fn.ntmps - xs.toArray.size) Go.undef, defers := [] } :=
  { size := by simp [frame0, hr.1]
    tm := fun i v hv => by
      simp only [frame0] at hv
      by_cases hi : i < args.length
      · rw [List.getElem?_append_left hi] at hv
        have hx : i < xs.length := by rw [hr.1]; exact hi
        have e : (xs.toArray ++ Array.replicate (fn.ntmps - xs.toArray.size) Go.undef).getD i Go.undef = xs[i] := by
          simp [Array.getElem?_append, hx]
        simp only
        rw [e]
        exact .of_rel (hr.2 i v _ hv (List.getElem?_eq_getElem hx))
      · rw [List.getElem?_append_right (by omega), List.getElem?_replicate] at hv
        split at hv
        · cases hv; exact Rel.undef _
        · cases hv
    vars := fun _ he => by simp [frame0] at he
    inj := fun _ _ _ e => by cases e
    lb := fun _ _ e => by cases e
    lo := fun _ _ e => by cases e
    nd := by simp [frame0]
    dfs := ⟨(fun d hd => by cases hd), List.Pairwise.nil⟩ }

/-- The frame behind a mark. -/
theorem FR.mark {D : Nat} {ds : List Deferred} (F : FR B S w h fr lm { a with defers := { target := .collected D, args := #[] } :: ds }) : FR B S (w.putObj D (.deferred none)) h fr lm { a with defers := ds } := by
  obtain ⟨D', h1, h2, h3, h4, h5⟩ := F.dfs.1 { target := .collected D, args := #[] } (by simp)
  injection h1 with h1 _
  injection h1 with h1
  subst h1
  have E := Ext_put (w := w) h3 (.deferred none)
  refine { size := F.size, tm := fun i v hv => (F.tm i v hv).mono E, vars := fun e he => ?_, inj := F.inj, lb := F.lb, lo := F.lo, nd := F.nd, dfs := ⟨fun d hd => ?_, (List.pairwise_cons.1 F.dfs.2).2⟩ }
  · obtain ⟨rb, g1, ⟨g2, xs, hb, hr, ho⟩, g3⟩ := F.vars e he
    refine ⟨rb, g1, ⟨g2, xs, hb.put _ ?_, hr.mono E, ho⟩, g3⟩
    rintro rfl
    obtain ⟨_, _, hb, _⟩ := hb
    rw [h5] at hb; cases hb
  · obtain ⟨D2, g1, g2, g3, g4, g5⟩ := F.dfs.1 d (by simp [hd])
    have hne := (List.pairwise_cons.1 F.dfs.2).1 d hd
    refine ⟨D2, g1, g2, g3, g4, ?_⟩
    rw [put_get]
    · exact g5
    · rintro rfl; exact hne g1.symm

/-- The way out: the marks are passed. -/
theorem leaves_sound (fn : Func) {R : Ending → World → Prop} : ∀ (ds : List Deferred) {w : World}, HR S w h → FR B S w h fr lm { a with defers := ds } →
    (∀ w2, HR S w2 h → FR B S w2 h fr lm { a with defers := [] } → Le (fun rb => B ≤ rb) h S w h S w2 → ∃ v, (results fn a.tmps).run P w2 = .ok v w2 ∧ R (.returned v) w2) → LeavesInM (FW none) 0 P fn a.tmps R ds .returning w
  | [], w, H, F, g => g w H F (Le.refl _ _ _ _)
  | d :: ds, w, H, F, g => by
    obtain ⟨D, rfl, h2, h3, h4, h5⟩ := F.dfs.1 d (by simp)
    have Lt : Le (fun rb => B ≤ rb) h S w h S (w.putObj D (.deferred none)) := turn_le h3 _ (.inr h2) (fun _ hk => hk) fun _ hk => hk
    refine ⟨by simp, .inl ⟨D, _, rfl, run_takeDeferred h5, leaves_sound fn ds (turn_block H h3 _ fun k ob hk => ?_) F.mark fun w2 H2 F2 L2 => g w2 H2 F2 (Le.trans H Lt L2)⟩⟩
    by_cases e : k = D
    · subst e
      rcases Bool.eq_false_or_eq_true ob.blk with hb | hb
      · exact (h4 ⟨_, hk, hb⟩).elim
      · exact .inr (.inl ⟨hb, hk⟩)
    · exact .inl ⟨e, hk⟩

/-- A function whose body gives what is asked. -/
theorem call_sound (hd : Draws P cf.esc) (hr0 : cf.rnd = false) {f : FuncId} {fn : Func} (hf : P.funcs[f]? = some fn) {args : List V} (hn : args.length ≤ fn.ntmps) {h : Heap} {K : V → Heap → Prop} (hK : bodyW P cf fn args h K) : CallW P f args h K := by
  intro S w xs H hr
  unfold bodyW at hK
  split at hK
  · exact hK.elim
  rename_i c hc
  refine callsIn_wide.1 (callsIn_of_wp_marks (F := FW none) (n := 0) hf hc trivial (wpA_sound hd (ro := none) hr0 c H (frame0_rel fn args xs hr hn) (Nat.le_refl _) hK ?_))
  intro e S' w' h' fr' lm' a' hk H' F' L'
  have fin : answerW P (rmode cf.esc) fn fr' h' (fun r => K r h') → LeavesInM (FW none) 0 P fn a'.tmps (fun e w' => ∃ r x h'' S'', e = .returned x ∧ K r h'' ∧ HR S'' w' h'' ∧ Rel S'' w' r x ∧ Le (fun _ => False) h S w h'' S'' w') a'.defers .returning w' := fun ha =>
    leaves_sound fn a'.defers H' F' fun w2 H2 F2 L2 => by
      obtain ⟨v, x, hv, hrel, hrun⟩ := answer_sound H2 F2 fn ha
      exact ⟨x, hrun, v, x, h', S', rfl, hv, H2, hrel, (Le.trans H L' L2).narrow H⟩
  cases e with
  | normal => exact fin hk
  | ret => exact fin hk
  | exit id => exact hk.elim
  | goto l => exact hk.elim

/-- A heap of which less is said. -/
def Heap.Sub (h' h : Heap) : Prop := ∀ l o, h' l = some o → h l = some o

theorem CallW.forget {f : FuncId} {args : List V} {h : Heap} {K K' : V → Heap → Prop} (c : CallW P f args h K) (m : ∀ r h', K r h' → ∃ h'', h''.Sub h' ∧ K' r h'') : CallW P f args h K' :=
  fun S w xs H R => (c S w xs H R).mono fun _ _ ⟨r, x, h', S', e, k, H', R', L⟩ => by
    obtain ⟨h'', hs, k'⟩ := m r h' k
    exact ⟨r, x, h'', S', e, k', ⟨fun l o hl => H'.obs l o (hs l o hl), H'.fresh⟩, R',
      { toExt := L.toExt, os := L.os, tape := L.tape, output := L.output, size := L.size, un := L.un, priv := L.priv, stays := L.stays
        all := fun l hl e => by
          have := L.all l hl e
          cases ho : h'' l with
          | none => rfl
          | some o => rw [hs _ _ ho] at this; cases this
        dom := fun l hl ⟨o, ho, hb⟩ => L.dom l hl ⟨o, hs _ _ ho, hb⟩ }⟩
end
end Jb
end

section
/- Any order of a region's operations: the plan's other orders. -/
namespace Jb
open Go Go.RowKit

section
variable {P : Program} {esc : List Nat} {ops : List Oper}

theorem agains_iff {fr : Fr} {h : Heap} : ∀ {l : List Nat} {R : Prop}, agains P esc ops fr h l R ↔ (∀ r ∈ l, AgainOk P esc ops fr h r) ∧ R
  | [], R => by simp [agains]
  | r :: l, R => by
    simp only [agains, agains_iff (l := l), List.mem_cons, forall_eq_or_imp, and_assoc]

theorem againsG_iff {g : Option (Option Bool)} {fr : Fr} {h : Heap} {l : List Nat} {R : Prop} : againsG P esc ops g fr h l R ↔ (g ≠ some (some false) → ∀ r ∈ l, AgainOk P esc ops fr h r) ∧ R := by
  cases l with
  | nil => simp [againsG]
  | cons a l =>
    cases g with
    | none => simp only [againsG, agains_iff]; simp
    | some g => cases g with
      | none => simp only [againsG, agains_iff]; simp
      | some b => cases b <;> simp [againsG, agains_iff, brW]

theorem AgainOk_iff {fr : Fr} {h : Heap} {j : Nat} {o : Oper} (ho : ops[j]? = some o) : AgainOk P esc ops fr h j ↔ ∃ g d, guardOf ops fr o = some g ∧ o.dst = some d ∧ quietRes (quietQ P esc fr h o) g (fr.tm.getD d .undef) := by
  unfold AgainOk
  rw [ho]
  simp only
  cases hg : guardOf ops fr o with
  | none => simp
  | some g =>
    cases hd : o.dst with
    | none => simp
    | some d =>
      simp only [Option.some.injEq, exists_eq_left', exists_and_left]
      cases quietQ P esc fr h o <;> cases g <;> simp only [quietRes]
      all_goals first
        | exact eq_comm
        | exact and_congr Iff.rfl eq_comm

theorem Does.noLp {o : Oper} {fr : Fr} {h : Heap} {τ : Tr} (D : Does P esc ops o fr h τ) {d : Nat} (n : NoLp d fr) (hb : ¬ Begins esc o d) : NoLp d (τ.app fr) := by
  obtain ⟨g, _, ⟨_, v, ⟨_, hv⟩, rfl⟩ | ⟨h0, _, d', cs, c, hd, _, _, rfl⟩⟩ := D
  · refine NoLp.put n _ ?_
    have hc := quiet_clean (P := P) (h := h) (fr := fr) esc o d n
    cases hq : quietQ P esc fr h o with
    | ok u =>
      rw [hq] at hv hc
      have hv : v = putOpt g u := by cases g <;> exact hv
      subst hv
      cases g <;> exact hc
    | chk c u =>
      rw [hq] at hv hc
      cases g with
      | none => rw [hv.2]; exact hc
      | some b => rw [hv.2]; exact hc
    | bad =>
      rw [hq] at hv
      cases g with
      | none => exact hv.elim
      | some b => rw [hv.2]; exact fun f => f
  · refine NoLp.put (fr := { fr with lc := lcSet d' cs fr.lc }) n (some d') (v := .lp d' 0) ?_
    exact fun e => hb ⟨h0, by rw [hd]; exact congrArg some e⟩

/-- Of two operations, the first ahead of the second one in a plan. -/
structure Ahead (esc : List Nat) (ops : List Oper) (x y : Oper) : Prop where
  dst : ∀ s, x.dst = some s → y.dst ≠ some s
  read : isRead x.op = true → ∀ s, y.dst = some s → s ∉ x.looksAt ops.toArray

/-- An operation that another one, behind it, need not wait for. -/
structure FreeOp (esc : List Nat) (ops : List Oper) (rc : List Nat) (y : Oper) (i : Nat) (x : Oper) : Prop where
  quiet : sortOf esc x ≠ 2
  left : ∀ s, x.dst = some s → s ∉ y.looksAt ops.toArray
  right : ∀ s, y.dst = some s → s ∉ x.looksAt ops.toArray
  dst : ∀ s, x.dst = some s → y.dst ≠ some s
  again : sortOf esc y = 2 → isRead x.op = true → i ∈ rc
  own : isRead x.op = true → ∀ s, x.dst = some s → s ∉ x.looksAt ops.toArray

/-- What was read stands fast, whatever else is not done yet. -/
structure Firm (esc : List Nat) (ops : List Oper) (rc : List Nat) (pre : List (Nat × List Nat)) (y : Oper) (fr : Fr) (r : Nat) : Prop where
  mem : r ∈ rc
  spec : ∃ x, ops[r]? = some x ∧ (∀ s, y.dst = some s → s ∉ x.looksAt ops.toArray) ∧
    ∀ p ∈ pre, ∀ z, ops[p.1]? = some z → (∀ s, z.dst = some s → s ∉ x.looksAt ops.toArray ∧ x.dst ≠ some s) ∧ ∀ d, Begins esc z d → ∀ u ∈ x.op.operands.toList, ¬ men d (fr.ev u)

theorem read_quiet {o : Oper} (h : isRead o.op = true) (h2 : sortOf esc o ≠ 2) : sortOf esc o = 0 := by
  obtain ⟨dst, op, type, pos, after, guard⟩ := o
  cases op <;> first | rfl | cases h | skip
  rename_i s d x
  unfold sortOf at *
  simp only at *
  split at h2
  · exact (h2 rfl).elim
  · rfl

theorem same_put {o : Oper} {fr : Fr} {τ : Tr} (h : ∀ s, τ.slot = some s → s ∉ o.looksAt ops.toArray) : Same o ops (τ.app fr) fr := fun t ht => Tr.tm (fun e => h t e ht)

theorem put_long {fr : Fr} {d : Nat} {v : V} (h : fr.tm.length ≤ d) : fr.put (some d) v = fr := by
  simp only [Fr.put]
  rw [List.set_eq_of_length_le h]

theorem load_op {o : Oper} {t : TypeId} {x : Operand} (e : o.op = .load t x) : isRead o.op = true ∧ x ∈ o.op.operands.toList := by
  rw [e]; exact ⟨rfl, by simp [Op.operands]⟩

theorem front {j : Nat} {y : Oper} (hy : ops[j]? = some y) {rc : List Nat} {post : List (Nat × List Nat)} {K : Fr → Heap → Prop} :
    ∀ (pre : List (Nat × List Nat)) (fr : Fr) (h : Heap) (Rs : List Nat),
      (∀ p ∈ pre, p.2 = [] ∧ ∃ x, ops[p.1]? = some x ∧ FreeOp esc ops rc y p.1 x) →
      pre.Pairwise (fun p q => ∀ x z, ops[p.1]? = some x → ops[q.1]? = some z → Ahead esc ops x z) →
      (∀ p ∈ pre, ∀ x, ops[p.1]? = some x → ∀ d, Begins esc x d → NoLp d fr) → (∀ d, Begins esc y d → NoLp d fr) →
      (∀ r ∈ Rs, Firm esc ops rc pre y fr r) →
      runD P esc ops (pre ++ (j, rc) :: post) fr h K → opW P esc ops y fr h fun f h' => runD P esc ops (pre ++ post) f h' K ∧ (guardOf ops fr y ≠ some (some false) → ∀ r ∈ Rs, AgainOk P esc ops f h' r)
  | [], fr, h, Rs, _, _, _, _, hR, hK => by
    simp only [List.nil_append, runD, hy] at hK ⊢
    refine opW_mono hK fun f h' _ k => ?_
    rw [againsG_iff] at k
    exact ⟨k.2, fun hg r hr => k.1 hg r (hR r hr).mem⟩
  | p :: pre, fr, h, Rs, hp, hpp, hn, hny, hR, hK => by
    obtain ⟨hp2, x, hx, F⟩ := hp p (by simp)
    obtain ⟨i, rci⟩ := p
    simp only at hp2 hx F
    subst hp2
    simp only [List.cons_append, runD, hx, againsG] at hK
    rw [opW_iff F.quiet] at hK
    obtain ⟨τ, D, hK⟩ := hK
    have hslot := D.slot
    rw [List.pairwise_cons] at hpp
    have hnx : ∀ d, Begins esc x d → NoLp d fr := hn (i, []) (by simp) x hx
    have hah : ∀ q ∈ pre, ∀ z, ops[q.1]? = some z → Ahead esc ops x z := fun q hq z hz => hpp.1 q hq x z hx hz
    -- what is not begun yet
    have hn1 : ∀ q ∈ pre, ∀ z, ops[q.1]? = some z → ∀ d, Begins esc z d → NoLp d (τ.app fr) := fun q hq z hz d hd =>
      D.noLp (hn q (by simp [hq]) z hz d hd) (fun hb => (hah q hq z hz).dst d hb.2 hd.2)
    have hny1 : ∀ d, Begins esc y d → NoLp d (τ.app fr) := fun d hd => D.noLp (hny d hd) (fun hb => F.dst d hb.2 hd.2)
    have hbeg : ∀ d, τ.begs d → NoLp d fr := fun d hd => hnx d (D.begs hd)
    -- what stands fast
    have hRs : ∀ r ∈ Rs, Firm esc ops rc pre y (τ.app fr) r := fun r hr => by
      obtain ⟨hm, z, hz, h1, h2⟩ := hR r hr
      refine ⟨hm, z, hz, h1, fun q hq u hu => ?_⟩
      obtain ⟨k1, k2⟩ := h2 q (by simp [hq]) u hu
      refine ⟨k1, fun d hd v hv => ?_⟩
      have sm : Same z ops (τ.app fr) fr := same_put fun s hs => ((h2 (i, []) (by simp) x hx).1 s (by rw [← hslot]; exact hs)).1
      rw [sm.ev v hv]
      exact k2 d hd v hv
    have hX : isRead x.op = true → sortOf esc y = 2 → Firm esc ops rc pre y (τ.app fr) i := fun hr hs =>
      { mem := F.again hs hr
        spec := ⟨x, hx, F.right, fun q hq z hz => ⟨fun s hs' => ⟨(hah q hq z hz).read hr s hs', fun e => (hah q hq z hz).dst s e hs'⟩, fun d hd u hu => by
          have sm : Same x ops (τ.app fr) fr := same_put fun s hs => F.own hr s (by rw [← hslot]; exact hs)
          rw [sm.ev u hu]
          exact (hn q (by simp [hq]) z hz d hd).ev u⟩⟩ }
    have sy : guardOf ops (τ.app fr) y = guardOf ops fr y := (show Same y ops (τ.app fr) fr from same_put fun s hs => F.left s (by rw [← hslot]; exact hs)).guard
    -- the rest
    have step : ∀ Rs' : List Nat, (∀ r ∈ Rs, r ∈ Rs') → (∀ r ∈ Rs', Firm esc ops rc pre y (τ.app fr) r) → (isRead x.op = true → sortOf esc y = 2 → i ∈ Rs') →
        opW P esc ops y fr h fun f h' => runD P esc ops ((i, []) :: (pre ++ post)) f h' K ∧ (guardOf ops fr y ≠ some (some false) → ∀ r ∈ Rs, AgainOk P esc ops f h' r) := by
      intro Rs' hsub hfirm hin
      have ih := front hy pre (τ.app fr) h Rs' (fun q hq => hp q (by simp [hq])) hpp.2 hn1 hny1 hfirm hK
      have ih := opW_frame (fun s hs => F.left s (by rw [← hslot]; exact hs)) (fun s hs => F.dst s (by rw [← hslot]; exact hs)) (fun d hd u hu => (hbeg d hd).ev u) ih
      rw [sy] at ih
      refine opW_mono ih fun f h' I k => ⟨?_, fun hgy r hr => ?_⟩
      · -- x, behind y
        have sm : Same x ops fr f := fun t ht => (I.tm t (fun e => F.right t e ht)).symm
        have key : ∃ σ, Does P esc ops x f h' σ ∧ σ.app f = τ.app f := by
          by_cases hrd : isRead x.op = true ∧ sortOf esc y = 2 ∧ guardOf ops fr y ≠ some (some false)
          · obtain ⟨g, d, hg, hd, hq⟩ := (AgainOk_iff hx).1 (k.2 hrd.2.2 i (hin hrd.1 hrd.2.1))
            obtain ⟨g0, hg0, ⟨h0, v, ⟨hv1, hv2⟩, hτ⟩ | ⟨h0, _⟩⟩ := D
            · subst hτ
              have own : Same x ops ((Tr.put x.dst v).app f) f := same_put fun s hs => F.own hrd.1 s hs
              have hg' : guardOf ops f x = some g := by rw [← own.guard]; exact hg
              have hgg : g0 = g := by rw [sm.guard, hg'] at hg0; exact (Option.some.inj hg0).symm
              subst hgg
              have hq' : quietQ P esc ((Tr.put x.dst v).app f) h' x = quietQ P esc f h' x := quietQ_congr own (hh := fun _ => rfl) fun m t u e => by
                rw [own.ev u (load_op e).2]
                exact load_frame (τ := .put x.dst v) fun _ hb => hb.elim
              rw [hq'] at hq
              refine ⟨.put x.dst (((Tr.put x.dst v).app f).tm.getD d .undef), ⟨g0, hg', .inl ⟨h0, _, ⟨by rw [← quietOps_congr sm]; exact hv1, hq⟩, rfl⟩⟩, ?_⟩
              rw [hd]
              simp only [Tr.app]
              by_cases hl : d < f.tm.length
              · have e : (f.put (some d) v).tm.getD d .undef = v := by simp [Fr.put, List.getD, hl]
                rw [e]
              · have hl' : f.tm.length ≤ d := Nat.le_of_not_lt hl
                rw [put_long hl', put_long hl']
            · rw [read_quiet hrd.1 F.quiet] at h0; cases h0
          · have quietly : isRead x.op = true → sortOf esc y ≠ 2 ∨ guardOf ops fr y = some (some false) := fun hr1 => by
              by_cases c : sortOf esc y = 2
              · by_cases c2 : guardOf ops fr y = some (some false)
                · exact .inr c2
                · exact (hrd ⟨hr1, c, c2⟩).elim
              · exact .inl c
            refine ⟨τ, D.congr sm (fun m t u e => ?_) (fun hrd1 => (I.heap (quietly hrd1)).symm), rfl⟩
            obtain ⟨l1, l2⟩ := load_op e
            have hs := quietly l1
            rw [I.heap hs]
            have hm : ∀ d, Begins esc y d → ¬ men d (fr.ev u).strip := fun d hd => men_strip ((hny d hd).ev u)
            generalize (fr.ev u).strip = w at hm
            cases w <;> try rfl
            rename_i d off
            simp only [loadQ]
            rw [I.var hs d (fun hb => hm d hb rfl)]
        obtain ⟨σ, D', e⟩ := key
        simp only [runD, hx, againsG]
        rw [opW_iff F.quiet]
        exact ⟨σ, D', by rw [e]; exact k.1⟩
      · -- what was read, behind y, ahead of x
        obtain ⟨hm, z, hz, h1, h2⟩ := hR r hr
        obtain ⟨k1, k2⟩ := h2 (i, []) (by simp) x hx
        obtain ⟨g, d, hg, hd, hq⟩ := (AgainOk_iff hz).1 (k.2 hgy r (hsub r hr))
        have sz : Same z ops (τ.app f) f := same_put fun s hs => (k1 s (by rw [← hslot]; exact hs)).1
        refine (AgainOk_iff hz).2 ⟨g, d, by rw [← sz.guard]; exact hg, hd, ?_⟩
        have e1 : (τ.app f).tm.getD d .undef = f.tm.getD d .undef := Tr.tm fun e => (k1 d (by rw [← hslot]; exact e)).2 hd
        have e2 : quietQ P esc (τ.app f) h' z = quietQ P esc f h' z := quietQ_congr sz (hh := fun _ => rfl) fun m t u e => by
          have hu := (load_op e).2
          rw [sz.ev u hu]
          refine load_frame fun d' hb => men_strip ?_
          have e3 : f.ev u = fr.ev u := by
            have : Same z ops f fr := fun t ht => I.tm t (fun e => h1 t e ht)
            exact this.ev u hu
          rw [e3]
          exact k2 d' (D.begs hb) u hu
        rw [← e1, ← e2]
        exact hq
    by_cases hc : isRead x.op = true ∧ sortOf esc y = 2
    · exact step (i :: Rs) (fun r hr => by simp [hr]) (fun r hr => by
        rcases List.mem_cons.1 hr with rfl | hr
        · exact hX hc.1 hc.2
        · exact hRs r hr) (fun _ _ => by simp)
    · exact step Rs (fun r hr => hr) hRs (fun h1 h2 => (hc ⟨h1, h2⟩).elim)
/-! Something new may be made at any time. -/

/-- There is room. -/
def Room (h : Heap) : Prop := ∃ n, ∀ l, n ≤ l → h l = none

theorem Room.upd {h : Heap} (r : Room h) (l : Nat) (o : Ob) : Room (h.upd l o) := by
  obtain ⟨n, hn⟩ := r
  refine ⟨max n (l + 1), fun k hk => ?_⟩
  simp only [Heap.upd]
  rw [if_neg (by omega)]
  exact hn k (by omega)

theorem Room.some {h : Heap} (r : Room h) : ∃ l, h l = none := by
  obtain ⟨n, hn⟩ := r
  exact ⟨n, hn n (Nat.le_refl _)⟩

/-- What it is, and how it is told. -/
def newC (P : Program) (y : Oper) (fr : Fr) : Option (List V × Prop × (Nat → V)) :=
  match y.op with
  | .alloc t => (zeroV P t).map fun cs => (cs, True, fun l => .ptr l 0)
  | .box t x => match okT P t with
    | true => (cellsQ (P.cellsOf t) (fr.ev x).strip).map fun p => (p.1, optNeeds none [fr.ev x] True ∧ p.2, fun l => .ptr l 0)
    | false => none
  | .buildSlice t n ps => match buildSliceQ P t n (ps.toList.map fun e => (e.1, (fr.ev e.2).strip)) with
    | .chk c (.sl es l _) => some (l.flatten, optNeeds none (y.op.operands.toList.map fr.ev) True ∧ c, fun k => .sref es k 0 l.length l.length)
    | _ => none
  | _ => none

theorem new_iff {y : Oper} (hn : isNew y = true) (hs : sortOf esc y = 2) {fr : Fr} {h : Heap} {K : Fr → Heap → Prop} :
    opW P esc ops y fr h K ↔ ∃ cs c tell, newC P y fr = some (cs, c, tell) ∧ c ∧ ∀ l, h l = none → K (fr.put y.dst (tell l)) (h.upd l (.cells cs)) := by
  obtain ⟨dst, op, type, pos, after, guard⟩ := y
  cases guard with
  | some g => cases op <;> simp [isNew] at hn
  | none =>
    unfold opW
    simp only [guardOf]
    rw [hs]
    simp only
    cases op <;> simp only [isNew] at hn <;> try cases hn
    · rename_i t
      simp only [effW, newC, Op.operands, optNeeds, List.map_nil]
      cases hz : zeroV P t with
      | none => simp [optNeeds]
      | some cs =>
        simp only [Option.map_some, Option.some.injEq, Prod.mk.injEq, Array.toList_empty, List.map_nil, optNeeds]
        constructor
        · exact fun h => ⟨cs, True, _, ⟨rfl, rfl, rfl⟩, trivial, h⟩
        · rintro ⟨_, _, _, ⟨rfl, rfl, rfl⟩, _, h⟩
          exact h
    · rename_i t x
      simp only [effW, newC, Op.operands, List.map_cons, List.map_nil]
      rw [optNeeds_iff]
      cases okT P t with
      | false => simp
      | true =>
        cases hc : cellsQ (P.cellsOf t) (fr.ev x).strip with
        | none => simp
        | some p =>
          obtain ⟨cs, c⟩ := p
          simp only [Option.map_some, Option.some.injEq, Prod.mk.injEq]
          constructor
          · rintro ⟨h1, h2, h3⟩
            exact ⟨cs, _, _, ⟨rfl, rfl, rfl⟩, ⟨(optNeeds_iff _ _ _).2 ⟨h1, trivial⟩, h2⟩, h3⟩
          · rintro ⟨_, _, _, ⟨rfl, rfl, rfl⟩, ⟨h1, h2⟩, h3⟩
            exact ⟨((optNeeds_iff _ _ _).1 h1).1, h2, h3⟩
    · rename_i t n ps
      simp only [effW, newC]
      rw [optNeeds_iff]
      cases hq : buildSliceQ P t n (ps.toList.map fun e => (e.1, (fr.ev e.2).strip)) with
      | ok v => simp
      | bad => simp
      | chk c v =>
        cases v with
        | sl es l g =>
          simp only [Option.some.injEq, Prod.mk.injEq]
          constructor
          · rintro ⟨h1, h2, h3⟩
            exact ⟨_, _, _, ⟨rfl, rfl, rfl⟩, ⟨(optNeeds_iff _ _ _).2 ⟨h1, trivial⟩, h2⟩, h3⟩
          · rintro ⟨_, _, _, ⟨rfl, rfl, rfl⟩, ⟨h1, h2⟩, h3⟩
            exact ⟨((optNeeds_iff _ _ _).1 h1).1, h2, h3⟩
        | _ => simp

theorem newC_congr {y : Oper} {fr fr' : Fr} (s : Same y ops fr fr') : newC P y fr = newC P y fr' := by
  have hev := s.ev
  unfold newC
  cases e : y.op <;> try rfl
  · rename_i t x
    have := hev x (by rw [e]; simp [Op.operands])
    simp only [this]
  · rename_i t n ps
    have h1 : (ps.toList.map fun e => (e.1, (fr.ev e.2).strip)) = ps.toList.map fun e => (e.1, (fr'.ev e.2).strip) := by
      apply List.map_congr_left
      intro q hq
      rw [hev q.2 (by rw [e]; simp [Op.operands]; exact ⟨q.1, by simpa using hq⟩)]
    have h2 : ((Op.buildSlice t n ps).operands.toList.map fr.ev) = (Op.buildSlice t n ps).operands.toList.map fr'.ev := by
      apply List.map_congr_left
      intro q hq
      exact hev q (by rw [e]; exact hq)
    simp only [h1, h2]

theorem newC_men {y : Oper} {fr : Fr} {cs : List V} {c : Prop} {tell : Nat → V} (h : newC P y fr = some (cs, c, tell)) (d l : Nat) : ¬ men d (tell l) := by
  unfold newC at h
  split at h
  · obtain ⟨_, _, e⟩ := Option.map_eq_some_iff.1 h; cases e; exact fun f => f
  · split at h
    · obtain ⟨_, _, e⟩ := Option.map_eq_some_iff.1 h; cases e; exact fun f => f
    · cases h
  · split at h
    · cases h; exact fun f => f
    · cases h
  · cases h

theorem cellsAt_upd {h : Heap} {l k : Nat} {o : Ob} (hne : k ≠ l) : cellsAt (h.upd l o) k = cellsAt h k := by
  simp [cellsAt, Heap.upd, hne]

theorem rd_new {m : Nat} {t : TypeId} {cs : List V} {off : Nat} {v : V} (hq : quietRes (rdQ P m t [] off) none v) : quietRes (rdQ P m t cs off) none v := by
  revert hq
  unfold rdQ
  cases okT P t <;> cases (P.underlying t).isSome <;> cases aggT P t <;> simp only <;> intro hq <;> try exact hq
  · obtain ⟨c', v', e, hc'⟩ := shV_same P m t (off < [].length) (([] : List V).getD off .undef)
    rw [e] at hq
    have := (hc' hq.1).1
    simp at this
  · obtain ⟨h1, h2⟩ := hq
    have h1 : off + P.cellsOf t ≤ 0 := h1
    refine ⟨by omega, ?_⟩
    rw [h2]
    have e1 : P.cellsOf t = 0 := by omega
    rw [e1]
    simp

theorem read_new {x : Oper} {fr : Fr} {h : Heap} {l : Nat} {o : Ob} {v : V} (hr : isRead x.op = true) (hl : h l = none) (hq : quietRes (quietQ P esc fr h x) none v) : quietRes (quietQ P esc fr (h.upd l o) x) none v := by
  have hc : cellsAt h l = [] := by simp [cellsAt, hl]
  unfold quietQ at *
  split at hq
  · exact hq
  · exact hq
  · rename_i n1 n2
    clear n1 n2
    generalize hop : x.op = op at *
    cases op <;> simp only [isRead] at hr <;> try cases hr
    · rename_i t a
      simp only [qop] at hq ⊢
      generalize (fr.ev a).strip = u at *
      cases u <;> simp only [loadQ] at hq ⊢ <;> try exact hq
      rename_i k off
      by_cases hk : k = l
      · subst hk
        rw [hc] at hq
        exact rd_new hq
      · rw [cellsAt_upd hk]; exact hq
    · rename_i s d a
      simp only [qop] at hq ⊢
      generalize (fr.ev a).strip = u at *
      unfold convQ at *
      split at hq
      · exact hq
      · exact hq
      · rename_i e es k off n cap h1 h2
        split at hq
        · rename_i hz
          by_cases hk : k = l
          · subst hk
            rw [hc] at hq
            obtain ⟨⟨g1, g2⟩, g3⟩ := hq
            have : n = 0 := by simp at g1; omega
            subst this
            exact ⟨⟨.inl rfl, rfl⟩, g3⟩
          · rw [cellsAt_upd hk]; exact hq
        · exact hq
      · exact hq
      · exact hq
    · rename_i t a i b
      simp only [qop] at hq ⊢
      generalize (fr.ev a).strip = u at *
      generalize (fr.ev i).strip = j at *
      have : ∀ es, mapAt h u = some es → mapAt (h.upd l o) u = some es := by
        intro es he
        cases u <;> simp only [mapAt] at he ⊢ <;> try exact he
        rename_i r
        cases r with
        | none => exact he
        | some r =>
          simp only at he ⊢
          have : r ≠ l := by rintro rfl; rw [hl] at he; cases he
          simp only [Heap.upd, this, if_false]
          exact he
      unfold lookupQ at *
      split at hq
      · split at hq
        · rename_i es hk hm
          rw [hk, this es hm]
          exact hq
        · exact hq.elim
      · exact hq

theorem Does.new {x : Oper} {fr f : Fr} {h : Heap} {l : Nat} {o : Ob} {τ : Tr} (D : Does P esc ops x fr h τ) (hg : isRead x.op = true → x.guard = none) (s : Same x ops fr f) (hv : ∀ d, f.var d = fr.var d) (hl : h l = none) :
    Does P esc ops x f (h.upd l o) τ := by
  by_cases hr : isRead x.op = true
  · obtain ⟨g, h1, h2⟩ := D
    have hgn : guardOf ops fr x = some none := by unfold guardOf; rw [hg hr]
    have : g = none := by rw [hgn] at h1; exact (Option.some.inj h1).symm
    subst this
    refine ⟨none, by rw [← s.guard]; exact h1, ?_⟩
    rcases h2 with ⟨h0, v, ⟨k1, k2⟩, k3⟩ | ⟨h0, g1, d, cs, c, k2, k3, k4, k5⟩
    · refine .inl ⟨h0, v, ⟨by rw [← quietOps_congr s]; exact k1, ?_⟩, k3⟩
      have e := quietQ_congr (P := P) (esc := esc) (h := h.upd l o) (h' := h.upd l o) s (fun m t u e => by
        have hu : u ∈ x.op.operands.toList := by rw [e]; simp [Op.operands]
        generalize (fr.ev u).strip = w
        cases w <;> try rfl
        simp only [loadQ, hv]) (fun _ => rfl)
      rw [← e]
      exact read_new hr hl k2
    · exact .inr ⟨h0, g1, d, cs, c, k2, by rw [← k3]; exact ownVar_congr fun y hy => by rw [s.ev y hy], by rw [← s.mapEv]; exact k4, k5⟩
  · exact D.congr s (fun m t u e => (hr (load_op e).1).elim) (fun c => (hr c).elim)

/-- Of two operations, the second one new: it may be made first. -/
structure FreeNew (esc : List Nat) (ops : List Oper) (y : Oper) (rc : List Nat) (x : Oper) : Prop where
  quiet : (sortOf esc x ≠ 2 ∧ rc = []) ∨ (isNew x = true ∧ sortOf esc x = 2 ∧ rc = []) ∨
    isCall x = true ∧ isAlloc y = true ∧ ∀ r ∈ rc, ∃ z, ops[r]? = some z ∧ isRead z.op = true ∧ z.guard = none ∧ (∀ s, y.dst = some s → s ∉ z.looksAt ops.toArray) ∧ ∀ s, z.dst = some s → y.dst ≠ some s
  left : ∀ s, x.dst = some s → s ∉ y.looksAt ops.toArray
  right : ∀ s, y.dst = some s → s ∉ x.looksAt ops.toArray
  dst : ∀ s, x.dst = some s → y.dst ≠ some s
  read : isRead x.op = true → x.guard = none

/-! What a call does not see stays. -/
theorem hr_less {S : Sim} {w : World} {h : Heap} {l : Nat} {o : Ob} (hl : h l = none) (H : HR S w (h.upd l o)) : HR S w h :=
  ⟨fun k ob hk => H.obs k ob (by
    have : k ≠ l := by rintro rfl; rw [hl] at hk; cases hk
    simp only [Heap.upd, this, if_false]; exact hk), H.fresh⟩

theorem hr_room {S : Sim} {w : World} {h : Heap} (H : HR S w h) : Room h := by
  refine ⟨w.heap.size, fun l hl => ?_⟩
  cases hh : h l with
  | none => rfl
  | some o =>
    have hob := H.obs l o hh
    have hfr := H.fresh l hl
    cases o with
    | cells cs => have := hob.1; rw [hfr.1] at this; cases this
    | grow es n => have := hob.1; rw [hfr.2] at this; cases this
    | obj q => have := hob.1; rw [hfr.1] at this; cases this

/-- More of the heap. -/
def More (l : Nat) (cs : List V) (K : V → Heap → Prop) (r : V) (h'' : Heap) : Prop := ∃ h', h'' = h'.upd l (.cells cs) ∧ h' l = none ∧ Room h' ∧ K r h'

theorem le_more {S S' : Sim} {w w' : World} {h h' : Heap} {l : Nat} {cs : List V} (hl : h l = none) (H0 : HR S w (h.upd l (.cells cs))) (H' : HR S' w' h') (L : Le (fun _ => False) h S w h' S' w') :
    h' l = none ∧ HR S' w' (h'.upd l (.cells cs)) ∧ Le (fun _ => False) (h.upd l (.cells cs)) S w (h'.upd l (.cells cs)) S' w' := by
  have hob : CellsRel S w l cs := H0.obs l (.cells cs) (by simp [Heap.upd])
  obtain ⟨ho, xs, ⟨e, fz, hb, hf⟩, hr, h1⟩ := hob
  have hlt : l < w.heap.size := (Array.getElem?_eq_some_iff.1 hb).1
  have hnb : ¬ Blk h l := fun ⟨o, h1, _⟩ => by rw [hl] at h1; cases h1
  obtain ⟨g1, g2⟩ := L.priv l ho (fun f => f) hnb
  have hn := L.all l hlt hl
  refine ⟨hn, ⟨fun k o hk => ?_, H'.fresh⟩, { toExt := L.toExt, os := L.os, tape := L.tape, output := L.output, size := L.size, un := L.un, stays := L.stays, priv := fun rb e hL hh => ?_, dom := fun k hk ⟨o, h1, h2⟩ => ?_, all := fun k hk e => ?_ }⟩
  · simp only [Heap.upd] at hk
    split at hk
    · rename_i e'; subst e'; cases hk
      exact ⟨g2, xs, ⟨e, fz, by rw [g1]; exact hb, hf⟩, hr.mono L.toExt, h1⟩
    · exact H'.obs k o hk
  · refine L.priv rb e hL fun ⟨o, h1, h2⟩ => hh ⟨o, ?_, h2⟩
    have : rb ≠ l := by rintro rfl; rw [hl] at h1; cases h1
    simp only [Heap.upd, this, if_false]; exact h1
  · simp only [Heap.upd] at h1
    split at h1
    · rename_i e'; subst e'; cases h1; exact ⟨.cells cs, by simp [Heap.upd], rfl⟩
    · rename_i e'
      obtain ⟨o', h3, h4⟩ := L.dom k hk ⟨o, h1, h2⟩
      exact ⟨o', by simp only [Heap.upd, e', if_false]; exact h3, h4⟩
  · simp only [Heap.upd] at e ⊢
    split at e
    · cases e
    · rename_i e'; rw [if_neg e']; exact L.all k hk e

theorem AnyW.more {f : FuncId} {args : List V} {h : Heap} {K : V → Heap → Prop} {l : Nat} {cs : List V} (hl : h l = none) (c : AnyW P f args h K) : AnyW P f args (h.upd l (.cells cs)) (More l cs K) := by
  unfold AnyW at *
  split at c
  · intro S w xs H R
    refine (c S w xs (hr_less hl H) R).mono ?_
    rintro e w' ⟨r, x, h', S', he, k, H', R', L⟩
    obtain ⟨a1, a2, a3⟩ := le_more hl H H' L
    exact ⟨r, x, _, S', he, ⟨h', rfl, a1, hr_room H', k⟩, a2, R', a3⟩
  · intro S w xs H R
    obtain ⟨r, x, w', h', S', he, k, H', R', L⟩ := c S w xs (hr_less hl H) R
    obtain ⟨a1, a2, a3⟩ := le_more hl H H' L
    exact ⟨r, x, w', _, S', he, ⟨h', rfl, a1, hr_room H', k⟩, a2, R', a3⟩

theorem YieldW.more {f : Nat} {args : List V} {h : Heap} {K : V → Heap → Prop} {l : Nat} {cs : List V} (hl : h l = none) (c : YieldW P f args h K) : YieldW P f args (h.upd l (.cells cs)) (More l cs K) := by
  intro S w xs H R
  obtain ⟨g, tmps, asg, body, h1, h2⟩ := c S w xs (hr_less hl H) R
  refine ⟨g, tmps, asg, body, h1, h2.mono ?_⟩
  rintro e w' ⟨r, x, h', S', he, k, H', R', L⟩
  obtain ⟨a1, a2, a3⟩ := le_more hl H H' L
  exact ⟨r, x, _, S', he, ⟨h', rfl, a1, hr_room H', k⟩, a2, R', a3⟩

theorem shV_clean (m : Nat) (t : TypeId) (c : Prop) (v : V) (d : Nat) : Clean d (shV P m t c v) := by
  unfold shV
  split <;> first
    | exact fun f => f
    | exact deLp_men d v
    | (split <;> first | exact fun f => f | exact deLp_men d v)

theorem shape1_clean {mt : Nat} {t : TypeId} {r : V} {K : V → Prop} (h : shape1 P mt t r K) : shape1 P mt t r fun v => (∀ d, ¬ men d v) ∧ K v := by
  unfold shape1 at *
  split at h
  · unfold ptrK at *
    split at h
    · exact ⟨fun _ f => f, h⟩
    · exact ⟨fun _ f => f, h⟩
    · exact h
  · exact ⟨h.1, fun _ f => f, h.2⟩
  · exact ⟨h.1, fun d => deLp_men d r, h.2⟩
  · exact ⟨h.1, fun d => deLp_men d r, h.2⟩
  · have hc := fun d => shV_clean (P := P) 0 t True r d
    generalize shV P 0 t True r = q at *
    cases q with
    | ok v => exact ⟨hc, h⟩
    | chk c v => exact ⟨h.1, hc, h.2⟩
    | bad => exact h

theorem shapeW_clean {mt : Nat} {t : TypeId} {r : V} {K : V → Prop} (h : shapeW P mt t r K) : shapeW P mt t r fun v => (∀ d, ¬ men d v) ∧ K v := by
  unfold shapeW at *
  split at h
  · exact ⟨h.1, shapes_mono h.2 fun vs k => ⟨fun _ f => f, k⟩⟩
  · exact shape1_clean h

theorem yes_clean {t : TypeId} {b : Bool} {v : V} (h : ∀ d, ¬ men d v) (d : Nat) : ¬ men d (yesV P t b v) := by
  unfold yesV
  split <;> exact h d

/-- A call, from a frame that has one more variable. -/
theorem call_more {x : Oper} (hx : isCall x = true) (hs : sortOf esc x = 2) {fr : Fr} {h : Heap} {K : Fr → Heap → Prop} {l : Nat} {cs : List V} (hl : h l = none) {d : Option Tmp} {u : V} (s : Same x ops fr (fr.put d u)) (hd : ∀ a, x.dst = some a → d ≠ some a)
    (hroom : Room h) (hK : opW P esc ops x fr h K) :
    opW P esc ops x (fr.put d u) (h.upd l (.cells cs)) fun f h'' => ∃ f0 h' v, f = f0.put d u ∧ h'' = h'.upd l (.cells cs) ∧ h' l = none ∧ Room h' ∧ f0 = fr.put x.dst v ∧ (∀ e, ¬ men e v) ∧ K f0 h' := by
  have hcomm : ∀ v, (fr.put d u).put x.dst v = (fr.put x.dst v).put d u := fun v => Tr.comm (τ := .put d u) (σ := .put x.dst v) (fun a ha e => hd a e ha) fr |>.symm
  unfold opW at *
  rw [← s.guard]
  cases hg : guardOf ops fr x with
  | none => rw [hg] at hK; exact hK
  | some g =>
    rw [hg] at hK
    rw [hs] at hK ⊢
    simp only at hK ⊢
    have go : ∀ (m0 : V → V), (∀ v, (∀ e, ¬ men e v) → ∀ e, ¬ men e (m0 v)) →
        optNeeds none (x.op.operands.toList.map fr.ev) (effW P (dstMode x esc) x.op x.type (fun y => (fr.ev y).strip) fr h fun v fr' h' => K (fr'.put x.dst (m0 v)) h') →
        optNeeds none (x.op.operands.toList.map (fr.put d u).ev) (effW P (dstMode x esc) x.op x.type (fun y => ((fr.put d u).ev y).strip) (fr.put d u) (h.upd l (.cells cs)) fun v fr' h'' =>
          ∃ f0 h' v', fr'.put x.dst (m0 v) = f0.put d u ∧ h'' = h'.upd l (.cells cs) ∧ h' l = none ∧ Room h' ∧ f0 = fr.put x.dst v' ∧ (∀ e, ¬ men e v') ∧ K f0 h') := by
      intro m0 hm0 hk
      rw [← s.mapEv]
      rw [optNeeds_iff] at hk ⊢
      refine ⟨hk.1, ?_⟩
      have hk := hk.2
      have hev : ∀ y ∈ x.op.operands.toList, ((fr.put d u).ev y).strip = (fr.ev y).strip := fun y hy => by rw [s.ev y hy]
      obtain ⟨c, f, ho, hf⟩ : ∃ c f, x.op = .call c ∧ c.callee = .value f := by
        unfold isCall at hx
        split at hx
        · rename_i c hc
          split at hx
          · rename_i f hf; exact ⟨c, f, hc, hf⟩
          · cases hx
        · cases hx
      obtain ⟨callee, args, ts⟩ := c
      simp only at hf
      subst hf
      rw [ho] at hk hev ⊢
      have hx : ∀ z ∈ args.toList, ((fr.put d u).ev z).strip = (fr.ev z).strip := fun z hz => hev z (by simp [Op.operands, Call.operands]; exact .inr (by simpa using hz))
      simp only [effW] at hk ⊢
      rw [hev f (by simp [Op.operands, Call.operands]), argsV_congr (P := P) ts.toList args.toList hx]
      have fin : ∀ (r : V) (h' : Heap), More l cs (fun r h' => shapeW P (dstMode x esc) x.type r fun v => K (fr.put x.dst (m0 v)) h') r h' →
          shapeW P (dstMode x esc) x.type r fun v => ∃ f0 h'' v', (fr.put d u).put x.dst (m0 v) = f0.put d u ∧ h' = h''.upd l (.cells cs) ∧ h'' l = none ∧ Room h'' ∧ f0 = fr.put x.dst v' ∧ (∀ e, ¬ men e v') ∧ K f0 h'' := by
        rintro r h' ⟨h'', rfl, hn, hr, k⟩
        exact shapeW_mono (shapeW_clean k) fun v ⟨hv, k⟩ => ⟨_, h'', m0 v, hcomm _, rfl, hn, hr, rfl, hm0 v hv, k⟩
      split at hk
      · split at hk
        · exact AnyW.mono (AnyW.more hl hk) fin
        · exact hk
      · split at hk
        · exact YieldW.mono (YieldW.more hl hk) fin
        · exact hk
      · exact hk
    cases g with
    | none => exact go (fun v => v) (fun v h => h) hK
    | some b =>
      cases b with
      | true => exact go (yesV P x.type true) (fun v h => yes_clean h) hK
      | false => exact ⟨fr.put x.dst (noV P x.type false), h, noV P x.type false, hcomm _, rfl, hl, hroom, rfl, fun e => by unfold noV; split <;> exact fun f => f, hK⟩

theorem new_tm {fr : Fr} {dst : Option Tmp} {v : V} {d : Nat} : (fr.put dst v).var d = fr.var d := by cases dst <;> rfl

theorem again_new {r : Nat} {z : Oper} (hz : ops[r]? = some z) (hr : isRead z.op = true) (hg : z.guard = none) {d : Option Tmp} {u : V} (h1 : ∀ s, d = some s → s ∉ z.looksAt ops.toArray) (h2 : ∀ s, z.dst = some s → d ≠ some s)
    {f : Fr} {h : Heap} {l : Nat} {o : Ob} (hl : h l = none) (ha : AgainOk P esc ops f h r) : AgainOk P esc ops (f.put d u) (h.upd l o) r := by
  obtain ⟨g, dd, g1, g2, g3⟩ := (AgainOk_iff hz).1 ha
  have hgn : guardOf ops f z = some none := by unfold guardOf; rw [hg]
  have : g = none := by rw [hgn] at g1; exact (Option.some.inj g1).symm
  subst this
  have s : Same z ops f (f.put d u) := fun t ht => (put_getD (fun e => h1 t e ht)).symm
  refine (AgainOk_iff hz).2 ⟨none, dd, by rw [← s.guard]; exact g1, g2, ?_⟩
  rw [put_getD (h2 dd g2)]
  have e := quietQ_congr (P := P) (esc := esc) (h := h.upd l o) (h' := h.upd l o) s (fun m t x e => by
    generalize (f.ev x).strip = w
    cases w <;> try rfl
    simp only [loadQ, new_tm]) (fun _ => rfl)
  rw [← e]
  exact read_new hr hl g3

theorem front_new {j : Nat} {y : Oper} (hy : ops[j]? = some y) (hnew : isNew y = true) (hs : sortOf esc y = 2) (hz : zerosOk P ops = true) {post : List (Nat × List Nat)} {K : Fr → Heap → Prop} :
    ∀ (pre : List (Nat × List Nat)) (fr : Fr) (h : Heap), Room h →
      (∀ p ∈ pre, ∃ x, ops[p.1]? = some x ∧ FreeNew esc ops y p.2 x) →
      (∀ p ∈ pre, ∀ x, ops[p.1]? = some x → ∀ d, Begins esc x d → NoLp d fr) →
      pre.Pairwise (fun p q => ∀ x z, ops[p.1]? = some x → ops[q.1]? = some z → Ahead esc ops x z) →
      runD P esc ops (pre ++ (j, []) :: post) fr h K → opW P esc ops y fr h fun f h' => runD P esc ops (pre ++ post) f h' K
  | [], fr, h, _, _, _, _, hK => by
    simp only [List.nil_append, runD, hy, againsG] at hK ⊢
    exact hK
  | p :: pre, fr, h, hroom, hp, hn, hpp, hK => by
    obtain ⟨x, hx, F⟩ := hp p (by simp)
    obtain ⟨i, rci⟩ := p
    simp only at hx F
    rw [List.pairwise_cons] at hpp
    simp only [List.cons_append, runD, hx] at hK ⊢
    rcases F.quiet with ⟨hq, rfl⟩ | ⟨hxn, hxs, rfl⟩ | ⟨hxc, hya, hrc⟩
    · simp only [againsG] at hK ⊢
      rw [opW_iff hq] at hK
      obtain ⟨τ, D, hK⟩ := hK
      have hslot := D.slot
      have ih := front_new hy hnew hs hz pre (τ.app fr) h hroom (fun q hq => hp q (by simp [hq])) (fun q hq z hz d hd =>
        D.noLp (hn q (by simp [hq]) z hz d hd) (fun hb => (hpp.1 q hq x z hx hz).dst d hb.2 hd.2)) hpp.2 hK
      have ih := opW_frame (fun s hs => F.left s (by rw [← hslot]; exact hs)) (fun s hs => F.dst s (by rw [← hslot]; exact hs)) (fun d hd u hu => (hn (i, []) (by simp) x hx d (D.begs hd)).ev u) ih
      rw [new_iff hnew hs] at ih ⊢
      obtain ⟨cs, c, tell, h1, h2, h3⟩ := ih
      refine ⟨cs, c, tell, h1, h2, fun l hl => ?_⟩
      rw [opW_iff hq]
      refine ⟨τ, D.new F.read (fun t ht => (put_getD (fun e => F.right t e ht)).symm) (fun d => new_tm) hl, h3 l hl⟩
    · simp only [againsG] at hK ⊢
      rw [new_iff hxn hxs] at hK
      obtain ⟨cs, c, tell, h1, h2, h3⟩ := hK
      have step : ∀ l, h l = none → ∃ cs2 c2 tell2, newC P y fr = some (cs2, c2, tell2) ∧ c2 ∧ ∀ l2, (h.upd l (.cells cs)) l2 = none → runD P esc ops (pre ++ post) ((fr.put x.dst (tell l)).put y.dst (tell2 l2)) ((h.upd l (.cells cs)).upd l2 (.cells cs2)) K := by
        intro l hl
        have ih := front_new hy hnew hs hz pre (fr.put x.dst (tell l)) (h.upd l (.cells cs)) (hroom.upd _ _) (fun q hq => hp q (by simp [hq])) (fun q hq z hz d hd =>
          (hn q (by simp [hq]) z hz d hd).put _ (newC_men h1 d l)) hpp.2 (h3 l hl)
        rw [new_iff hnew hs] at ih
        obtain ⟨cs2, c2, tell2, g1, g2, g3⟩ := ih
        exact ⟨cs2, c2, tell2, by rw [newC_congr (ops := ops) (fr' := fr.put x.dst (tell l)) (fun t ht => (put_getD (fun e => F.left t e ht)).symm)]; exact g1, g2, g3⟩
      rw [new_iff hnew hs]
      obtain ⟨l0, hl0⟩ := hroom.some
      obtain ⟨cs2, c2, tell2, g1, g2, _⟩ := step l0 hl0
      refine ⟨cs2, c2, tell2, g1, g2, fun l2 hl2 => ?_⟩
      rw [new_iff hxn hxs]
      refine ⟨cs, c, tell, by rw [← h1]; exact newC_congr (ops := ops) (fun t ht => put_getD (fun e => F.right t e ht)), h2, fun l hl => ?_⟩
      have hne : l ≠ l2 := by
        rintro rfl
        simp [Heap.upd] at hl
      have hl' : h l = none := by simpa [Heap.upd, hne] using hl
      obtain ⟨cs3, c3, tell3, k1, _, k3⟩ := step l hl'
      rw [g1] at k1
      cases k1
      have := k3 l2 (by simpa [Heap.upd, hne.symm] using hl2)
      have e1 : (fr.put x.dst (tell l)).put y.dst (tell2 l2) = (fr.put y.dst (tell2 l2)).put x.dst (tell l) :=
        Tr.comm (τ := .put y.dst (tell2 l2)) (σ := .put x.dst (tell l)) (fun d hd e => F.dst d e hd) fr
      have e2 : (h.upd l (.cells cs)).upd l2 (.cells cs2) = (h.upd l2 (.cells cs2)).upd l (.cells cs) := by
        funext k
        simp only [Heap.upd]
        by_cases hk : k = l2
        · by_cases hk' : k = l
          · omega
          · simp [hk, hne.symm]
        · simp [hk]
      rw [← e1, ← e2]
      exact this
    · -- a call, ahead of a new variable
      have hxs : sortOf esc x = 2 := by
        obtain ⟨dst, op, type, pos, after, guard⟩ := x
        unfold isCall at hxc
        simp only at hxc
        split at hxc
        · rename_i c
          split at hxc
          · rename_i f hf
            obtain ⟨callee, args, ts⟩ := c
            simp only at hf
            subst hf
            rfl
          · cases hxc
        · cases hxc
      obtain ⟨t, hop⟩ : ∃ t, y.op = .alloc t := by
        unfold isAlloc at hya
        split at hya
        · rename_i t h1 _; exact ⟨t, h1⟩
        · cases hya
      have hzt : (zeroV P t).isSome = true := by
        have := List.all_eq_true.1 hz y (List.mem_of_getElem? hy)
        rw [hop] at this
        exact this
      obtain ⟨cs, hcs⟩ := Option.isSome_iff_exists.1 hzt
      have hC : ∀ f : Fr, newC P y f = some (cs, True, fun l => .ptr l 0) := fun f => by simp only [newC, hop, hcs, Option.map_some]
      rw [new_iff hnew hs]
      refine ⟨cs, True, _, hC fr, trivial, fun l hl => ?_⟩
      have hm := call_more (P := P) (ops := ops) (cs := cs) hxc hxs hl (d := y.dst) (u := .ptr l 0) (fun t ht => (put_getD (fun e => F.right t e ht)).symm) (fun a ha e => F.dst a ha e) hroom hK
      refine opW_mono hm ?_
      rintro f h'' - ⟨f0, h', v, rfl, rfl, hn', hr', hf0, hv, k⟩
      rw [againsG_iff] at k ⊢
      have sx : guardOf ops (fr.put y.dst (.ptr l 0)) x = guardOf ops fr x := (show Same x ops (fr.put y.dst (.ptr l 0)) fr from fun t ht => put_getD (fun e => F.right t e ht)).guard
      refine ⟨fun hg r hr => ?_, ?_⟩
      · obtain ⟨z, z1, z2, z3, z4, z5⟩ := hrc r hr
        exact again_new z1 z2 z3 z4 z5 hn' (k.1 (by rw [← sx]; exact hg) r hr)
      have k := k.2
      have ih := front_new hy hnew hs hz pre f0 h' hr' (fun q hq => hp q (by simp [hq])) (fun q hq z hz' d hd => by
        rw [hf0]
        exact (hn q (by simp [hq]) z hz' d hd).put _ (hv d)) hpp.2 k
      rw [new_iff hnew hs] at ih
      obtain ⟨cs2, c2, tell2, g1, _, g3⟩ := ih
      rw [hC] at g1
      cases g1
      exact g3 l hn'
end
end Jb
end

section
/- A region with a draw. -/
namespace Jb
open Go Go.RowKit

section
variable {P : Program} {esc : List Nat} {ops : List Oper} {anc : List (Nat × Nat)}

theorem hasN_iff {l : List Nat} {n : Nat} : hasN l n = true ↔ n ∈ l := by
  unfold hasN
  rw [List.any_eq_true]
  constructor
  · rintro ⟨x, hx, h⟩; rw [Nat.eq_of_beq_eq_true h]; exact hx
  · intro h; exact ⟨n, h, Nat.beq_refl n⟩

theorem nodupN_iff : ∀ {l : List Nat}, nodupN l = true → l.Nodup
  | [], _ => List.nodup_nil
  | a :: l, h => by
    simp only [nodupN, Bool.and_eq_true, Bool.not_eq_true'] at h
    refine List.nodup_cons.2 ⟨fun ha => ?_, nodupN_iff h.2⟩
    have h1 : l.any (Nat.beq a) = true := List.any_eq_true.2 ⟨a, ha, Nat.beq_refl a⟩
    rw [h.1] at h1; cases h1

theorem dstIn_false {o : Oper} {l : List Nat} (h : dstIn o l = false) : ∀ s, o.dst = some s → s ∉ l := by
  intro s hs hm
  unfold dstIn at h
  rw [hs] at h
  simp only at h
  rw [hasN_iff.2 hm] at h; cases h

theorem dstEq_false {x y : Oper} (h : dstEq x y = false) : ∀ s, x.dst = some s → y.dst ≠ some s := by
  intro s hx hy
  unfold dstEq at h
  rw [hx, hy] at h
  simp only at h
  rw [Nat.beq_refl] at h; cases h

theorem nb2 {n : Nat} (h : Nat.beq n 2 = false) : n ≠ 2 := by rintro rfl; cases h

theorem pair_ahead {p q : Nat × List Nat} (h : pairOk ops esc anc p q = true) : ∀ x z, ops[p.1]? = some x → ops[q.1]? = some z → Ahead esc ops x z := by
  intro x z hx hz
  unfold pairOk at h
  rw [hx, hz] at h
  simp only [Bool.and_eq_true, Bool.not_eq_true', Bool.and_eq_false_iff] at h
  obtain ⟨⟨⟨h1, h2⟩, _⟩, _⟩ := h
  exact { dst := dstEq_false h1, read := fun hr => dstIn_false (h2.resolve_left (by rw [hr]; simp)) }

theorem pair_anc {p q : Nat × List Nat} (h : pairOk ops esc anc p q = true) : (lookN anc p.1).testBit q.1 = false := by
  unfold pairOk at h
  split at h
  · simp only [Bool.and_eq_true, Bool.not_eq_true'] at h
    exact h.1.2
  · cases h

theorem pair_free {p q : Nat × List Nat} {x z : Oper} (hx : ops[p.1]? = some x) (hz : ops[q.1]? = some z) (h : pairOk ops esc anc p q = true) (ho : oneOk ops esc anc p = true) (ha : (lookN anc q.1).testBit p.1 = false) :
    ((p.2 = [] ∧ FreeOp esc ops q.2 z p.1 x) ∨ (isNew z = true ∧ sortOf esc z = 2 ∧ q.2 = [])) ∧ (isNew z = true → sortOf esc z = 2 → q.2 = [] → FreeNew esc ops z p.2 x) := by
  have hah := pair_ahead h x z hx hz
  unfold pairOk at h
  unfold oneOk at ho
  rw [hx] at h ho
  rw [hz] at h
  simp only [Bool.and_eq_true, Bool.not_eq_true', Bool.or_eq_true, ha, Bool.false_eq_true, false_or, Bool.and_eq_false_iff] at h ho
  obtain ⟨_, h⟩ := h
  obtain ⟨⟨⟨_, _⟩, g2⟩, g3⟩ := ho
  rcases h with ⟨⟨⟨h1, h2⟩, h3⟩, h4⟩ | ⟨⟨⟨⟨⟨⟨h1, h2⟩, h3⟩, h4⟩, h5⟩, h6⟩, h7⟩
  · have hq := nb2 h1
    have hp2 : p.2 = [] := by
      rw [h1] at g3
      simpa using g3
    refine ⟨.inl ⟨hp2, { quiet := hq, left := dstIn_false h2, right := dstIn_false h3, dst := hah.dst, again := fun hs hr => ?_, own := fun hr => dstIn_false (g2.resolve_left (by rw [hr]; simp)) }⟩,
      fun _ hs he => { quiet := .inl ⟨hq, hp2⟩, left := dstIn_false h2, right := dstIn_false h3, dst := hah.dst, read := fun hr => ?_ }⟩
    · rw [hs, hr] at h4
      simp only [Nat.beq_refl, Bool.true_eq_false, false_or] at h4
      exact hasN_iff.1 h4
    · rw [hs, hr, he] at h4
      simp [hasN] at h4
  · have hz2 : sortOf esc z = 2 := Nat.eq_of_beq_eq_true h3
    have he : q.2 = [] := by simpa using h4
    refine ⟨.inr ⟨h2, hz2, he⟩, fun _ _ _ => { quiet := ?_, left := dstIn_false h5, right := dstIn_false h6, dst := hah.dst, read := fun hr => ?_ }⟩
    · rcases h1 with (h1 | h1) | h1
      · exact .inl ⟨nb2 h1, by rw [h1] at g3; simpa using g3⟩
      · by_cases h : sortOf esc x = 2
        · exact .inr (.inl ⟨h1.1, h, by simpa using h1.2⟩)
        · exact .inl ⟨h, by simpa using h1.2⟩
      · refine .inr (.inr ⟨h1.1.1, h1.1.2, fun r hr => ?_⟩)
        have := List.all_eq_true.1 h1.2 r hr
        unfold rdFree at this
        split at this
        · rename_i u hu
          simp only [Bool.and_eq_true, Bool.not_eq_true'] at this
          obtain ⟨⟨⟨u1, u2⟩, u3⟩, u4⟩ := this
          exact ⟨u, hu, u1, by simpa using u2, dstIn_false u3, dstEq_false u4⟩
        · cases this
    · rcases h7 with h7 | h7
      · rw [hr] at h7; cases h7
      · simpa using h7

theorem one_anc {p : Nat × List Nat} (h : oneOk ops esc anc p = true) : (lookN anc p.1).testBit p.1 = false := by
  unfold oneOk at h
  split at h
  · simp only [Bool.and_eq_true, Bool.not_eq_true'] at h
    exact h.1.1.1
  · cases h

theorem one_op {p : Nat × List Nat} (h : oneOk ops esc anc p = true) : ∃ x, ops[p.1]? = some x := by
  unfold oneOk at h
  split at h
  · rename_i x hx; exact ⟨x, hx⟩
  · cases h

theorem fold_bit (l : List Nat) (i : Nat) : (l.foldr (fun j m => (m ||| lookN anc j) ||| (1 <<< j)) 0).testBit i = true ↔ ∃ j ∈ l, i = j ∨ (lookN anc j).testBit i = true := by
  induction l with
  | nil => simp
  | cons j l ih =>
    rw [List.foldr_cons, Nat.testBit_or, Nat.testBit_or, Bool.or_eq_true, Bool.or_eq_true, ih]
    have : (1 <<< j).testBit i = true ↔ i = j := by
      rw [Nat.shiftLeft_eq, Nat.one_mul, Nat.testBit_two_pow]
      simp [eq_comm]
    rw [this]
    simp only [List.mem_cons, exists_eq_or_imp]
    constructor
    · rintro ((h | h) | h)
      · exact .inr h
      · exact .inl (.inr h)
      · exact .inl (.inl h)
    · rintro ((h | h) | h)
      · exact .inr h
      · exact .inl (.inr h)
      · exact .inl (.inl h)

theorem anc_iff (h : ancOk ops anc = true) {i : Nat} {o : Oper} (ho : ops[i]? = some o) (q : Nat) : (lookN anc i).testBit q = true ↔ ∃ j ∈ bindsOf o, q = j ∨ (lookN anc j).testBit q = true := by
  unfold ancOk at h
  rw [List.all_eq_true] at h
  have := h i (List.mem_range.2 (List.getElem?_eq_some_iff.1 ho).1)
  rw [ho] at this
  simp only at this
  rw [Nat.eq_of_beq_eq_true this]
  exact fold_bit _ _

theorem pairs_iff : ∀ {l : List (Nat × List Nat)}, pairsOk ops esc anc l = true → l.Pairwise (fun p q => pairOk ops esc anc p q = true)
  | [], _ => .nil
  | p :: l, h => by
    simp only [pairsOk, Bool.and_eq_true, List.all_eq_true] at h
    exact .cons h.1 (pairs_iff h.2)

/-- What of a plan is still to do, against what is done. -/
structure Open (ops : List Oper) (esc : List Nat) (anc : List (Nat × Nat)) (l : List (Nat × List Nat)) (listed : Array Bool) : Prop where
  mem : ∀ i, i < ops.length → (listed.getD i true = false ↔ i ∈ l.map (·.1))
  size : listed.size = ops.length
  closed : ∀ i q, listed.getD i false = true → (lookN anc i).testBit q = true → listed.getD q false = true
  nodup : (l.map (·.1)).Nodup
  one : ∀ p ∈ l, oneOk ops esc anc p = true
  pairs : l.Pairwise (fun p q => pairOk ops esc anc p q = true)

theorem getD_both {listed : Array Bool} {i : Nat} (h : listed.getD i false = true) : listed.getD i true = true := by
  rcases Nat.lt_or_ge i listed.size with h' | h'
  · simp [h'] at h ⊢; exact h
  · simp [Array.getElem?_eq_none h']

theorem getD_back {listed : Array Bool} {i : Nat} (hi : i < listed.size) (h : listed.getD i true ≠ false) : listed.getD i false = true := by
  simp [hi] at h ⊢; exact h

theorem binds_mem {o : Oper} {j : Nat} : j ∈ bindsOf o ↔ ∃ e ∈ o.after, Region.binds .any e = true ∧ e.on = j := by
  unfold bindsOf
  simp only [List.mem_map, List.mem_filter, Array.mem_toList_iff]
  constructor
  · rintro ⟨e, ⟨h1, h2⟩, h3⟩; exact ⟨e, h1, h2, h3⟩
  · rintro ⟨e, h1, h2, h3⟩; exact ⟨e, ⟨h1, h2⟩, h3⟩

section
variable {l : List (Nat × List Nat)} {listed : Array Bool}

/-- Who may go now has nobody left to wait for. -/
theorem Open.ready_anc (G : Open ops esc anc l listed) (hanc : ancOk ops anc = true) {i : Nat} (hi : i ∈ Region.ready .any ops.toArray listed) {q : Nat} (hq : (lookN anc i).testBit q = true) : listed.getD q false = true := by
  obtain ⟨_, o, ho, hall⟩ := mem_ready.1 hi
  have ho' : ops[i]? = some o := by simpa using ho
  obtain ⟨j, hj, h⟩ := (anc_iff hanc ho' q).1 hq
  obtain ⟨e, he, hb, rfl⟩ := binds_mem.1 hj
  have hl := hall e he hb
  rcases h with rfl | h
  · exact hl
  · exact G.closed _ _ hl h

theorem Open.ready_mem (G : Open ops esc anc l listed) {i : Nat} (hi : i ∈ Region.ready .any ops.toArray listed) : i ∈ l.map (·.1) ∧ i < ops.length := by
  obtain ⟨h0, o, ho, _⟩ := mem_ready.1 hi
  have hlt : i < ops.length := by
    have ho' : ops[i]? = some o := by simpa using ho
    exact (List.getElem?_eq_some_iff.1 ho').1
  exact ⟨(G.mem i hlt).1 h0, hlt⟩

/-- The first of a plan may go. -/
theorem Open.head_ready {p : Nat × List Nat} (G : Open ops esc anc (p :: l) listed) (hanc : ancOk ops anc = true) (hlen : ∀ (i : Nat) (o : Oper) (j : Nat), ops[i]? = some o → j ∈ bindsOf o → j < ops.length) : p.1 ∈ Region.ready .any ops.toArray listed := by
  obtain ⟨x, hx⟩ := one_op (G.one p (by simp))
  have hlt := (List.getElem?_eq_some_iff.1 hx).1
  refine mem_ready.2 ⟨(G.mem _ hlt).2 (by simp), x, by simpa using hx, fun e he hb => ?_⟩
  have hj : e.on ∈ bindsOf x := binds_mem.2 ⟨e, he, hb, rfl⟩
  have hbit : (lookN anc p.1).testBit e.on = true := (anc_iff hanc hx _).2 ⟨_, hj, .inl rfl⟩
  have hjl := hlen _ _ _ hx hj
  refine getD_back (by rw [G.size]; exact hjl) fun hc => ?_
  have hm := (G.mem _ hjl).1 hc
  obtain ⟨q, hq, he⟩ := List.mem_map.1 hm
  rcases List.mem_cons.1 hq with rfl | hq
  · have := one_anc (G.one q (by simp))
    rw [he] at this
    rw [he] at hbit
    rw [this] at hbit; cases hbit
  · have := pair_anc (List.rel_of_pairwise_cons G.pairs hq)
    rw [he, hbit] at this; cases this

theorem Open.step {pre post : List (Nat × List Nat)} {p : Nat × List Nat} (G : Open ops esc anc (pre ++ p :: post) listed) (hanc : ancOk ops anc = true) (hr : p.1 ∈ Region.ready .any ops.toArray listed) :
    Open ops esc anc (pre ++ post) (listed.setIfInBounds p.1 true) := by
  have hnd := G.nodup
  have hsub : (pre ++ post).Sublist (pre ++ p :: post) := List.Sublist.append_left (List.sublist_cons_self _ _) _
  have hplt := (G.ready_mem hr).2
  refine { size := by simp [G.size], nodup := hnd.sublist (hsub.map _), one := fun q hq => G.one q (hsub.subset hq), pairs := G.pairs.sublist hsub, mem := fun i hi => ?_, closed := fun i q hi hq => ?_ }
  · by_cases he : p.1 = i
    · subst he
      have h1 : (listed.setIfInBounds p.1 true).getD p.1 true = true := by simp [Array.getElem?_setIfInBounds, G.size, hi]
      rw [h1]
      simp only [Bool.true_eq_false, false_iff]
      intro hm
      rw [List.map_append, List.map_cons] at hnd
      rw [List.map_append] at hm
      rw [List.nodup_append] at hnd
      obtain ⟨h1, h2, h3⟩ := hnd
      rcases List.mem_append.1 hm with hm | hm
      · exact h3 _ hm _ (by simp) rfl
      · exact (List.nodup_cons.1 h2).1 hm
    · rw [getD_set_ne true he, G.mem i hi]
      simp only [List.map_append, List.map_cons, List.mem_append, List.mem_cons]
      constructor
      · rintro (h | h | h)
        · exact .inl h
        · exact (he h.symm).elim
        · exact .inr h
      · rintro (h | h)
        · exact .inl h
        · exact .inr (.inr h)
  · by_cases he : p.1 = i
    · subst he
      exact getD_set_true (G.ready_anc hanc hr hq)
    · rw [getD_set_ne false he] at hi
      exact getD_set_true (G.closed i q hi hq)
end

variable {S : Sim} {w : World} {h : Heap} {lm : Nat → Option Nat} {B : Nat} {fr : Fr} {a : Act}

theorem any_sound {ro : Option Nat} (hz : zerosOk P ops = true) (hanc : ancOk ops anc = true) (hlen : ∀ (i : Nat) (o : Oper) (j : Nat), ops[i]? = some o → j ∈ bindsOf o → j < ops.length) {K : Fr → Heap → Prop} {Q : Exit → Act → World → Prop} :
    ∀ (l : List (Nat × List Nat)) {S w h fr lm a} (listed : Array Bool), Open ops esc anc l listed → HR S w h → FR B S w h fr lm a → B ≤ w.heap.size →
      (∀ p ∈ l, ∀ o, ops[p.1]? = some o → ∀ d, Begins esc o d → NoLp d fr) → runD P esc ops l fr h K → Goal B h S w K (Q .normal) → wpAnyIn (FW ro) 0 P .any ops.toArray Q l.length listed a w := by
  intro l
  induction hn : l.length generalizing l with
  | zero =>
    intro S w h fr lm a listed G H F hB _ hK hg
    have : l = [] := List.length_eq_zero_iff.1 hn
    subst this
    refine ⟨?_, hg S w h fr lm a hK H F (Le.refl _ _ _ _)⟩
    refine List.eq_nil_iff_forall_not_mem.2 fun i hi => ?_
    have := (G.ready_mem hi).1
    simp at this
  | succ n ih =>
    intro S w h fr lm a listed G H F hB hm hK hg
    refine ⟨fun hr => ?_, fun i hi => ?_⟩
    · cases l with
      | nil => simp at hn
      | cons p l =>
        have := G.head_ready hanc hlen
        rw [hr] at this
        cases this
    · obtain ⟨p, hp, he⟩ := List.mem_map.1 (G.ready_mem hi).1
      subst he
      obtain ⟨pre, post, rfl⟩ := List.append_of_mem hp
      obtain ⟨y, hy⟩ := one_op (G.one p (by simp))
      have hpairs := List.pairwise_append.1 G.pairs
      have hah : ∀ q ∈ pre ++ post, ∀ z, ops[q.1]? = some z → ∀ s, y.dst = some s → z.dst ≠ some s := fun q hq z hz s hs hz' => by
        rcases List.mem_append.1 hq with hq | hq
        · exact (pair_ahead (hpairs.2.2 q hq p (by simp)) z y hz hy).dst s hz' hs
        · exact (pair_ahead (List.rel_of_pairwise_cons hpairs.2.1 hq) y z hy hz).dst s hs hz'
      have hfr : ∀ q ∈ pre, ∃ x, ops[q.1]? = some x ∧ ((q.2 = [] ∧ FreeOp esc ops p.2 y q.1 x) ∨ (isNew y = true ∧ sortOf esc y = 2 ∧ p.2 = [])) ∧ (isNew y = true → sortOf esc y = 2 → p.2 = [] → FreeNew esc ops y q.2 x) := fun q hq => by
        obtain ⟨x, hx⟩ := one_op (G.one q (by simp [hq]))
        have hunl : (lookN anc p.1).testBit q.1 = false := by
          cases hb : (lookN anc p.1).testBit q.1 with
          | false => rfl
          | true =>
            have h1 := getD_both (G.ready_anc hanc hi hb)
            have h2 := (G.mem q.1 (List.getElem?_eq_some_iff.1 hx).1).2 (List.mem_map.2 ⟨q, by simp [hq], rfl⟩)
            rw [h1] at h2; cases h2
        obtain ⟨k2, k3⟩ := pair_free hx hy (hpairs.2.2 q hq p (by simp)) (G.one q (by simp [hq])) hunl
        exact ⟨x, hx, k2, k3⟩
      have hK2 : opW P esc ops y fr h fun f h' => runD P esc ops (pre ++ post) f h' K := by
        by_cases hc : isNew y = true ∧ sortOf esc y = 2 ∧ p.2 = []
        · obtain ⟨i, rc⟩ := p
          obtain ⟨c1, c2, c3⟩ := hc
          simp only at c3
          subst c3
          refine front_new hy c1 c2 hz pre fr h ⟨w.heap.size, fun l hl => ?_⟩ (fun q hq => ?_) (fun q hq x hx d hd => hm q (by simp [hq]) x hx d hd) (hpairs.1.imp fun {a b} k x z hx hz => pair_ahead k x z hx hz) hK
          · cases hh : h l with
            | none => rfl
            | some o =>
              have hob := H.obs l o hh
              have hfr := H.fresh l hl
              cases o with
              | cells cs => have := hob.1; rw [hfr.1] at this; cases this
              | grow es n => have := hob.1; rw [hfr.2] at this; cases this
              | obj q => have := hob.1; rw [hfr.1] at this; cases this
          · obtain ⟨x, k2, _, k3⟩ := hfr q hq
            exact ⟨x, k2, k3 c1 c2 rfl⟩
        · have hK' := front hy pre fr h [] (fun q hq => by
            obtain ⟨x, k2, k3, _⟩ := hfr q hq
            obtain ⟨k1, k3⟩ := k3.resolve_right hc
            exact ⟨k1, x, k2, k3⟩) (hpairs.1.imp fun {a b} k x z hx hz => pair_ahead k x z hx hz) (fun q hq x hx d hd => hm q (by simp [hq]) x hx d hd) (fun d hd => hm p (by simp) y hy d hd) (fun _ hr => by cases hr) hK
          exact opW_mono hK' fun _ _ _ k => k.1
      have hl : (pre ++ post).length = n := by simp at hn ⊢; omega
      have := opW_sound (ro := ro) H F hB ops y (fun d hd => hm p (by simp) y hy d hd) hK2 (wpAnyIn (FW ro) 0 P .any ops.toArray Q n (listed.setIfInBounds p.1 true)) Q ?_
      · have hy' : ops.toArray[p.1]? = some y := by simpa using hy
        unfold wpOpIn
        rw [hy']
        simp only
        split
        · rename_i hw; rw [if_pos hw] at this; exact this
        · rename_i hw; rw [if_neg hw] at this; exact ⟨fun _ _ => trivial, this⟩
      · intro S' w' h' fr' lm' a' hk H' F' L' hnl
        refine ih (pre ++ post) hl _ (G.step hanc hi) H' F' (Nat.le_trans hB L'.size) (fun q hq z hz d hd => ?_) hk ?_
        · refine hnl d (hm q ?_ z hz d hd) (fun hb => hah q hq z hz d hb.2 hd.2)
          rcases List.mem_append.1 hq with hq | hq
          · simp [hq]
          · simp [hq]
        · exact fun S2 w2 h2 fr2 lm2 a2 k2 H2 F2 L2 => hg S2 w2 h2 fr2 lm2 a2 k2 H2 F2 (Le.trans H L' L2)

/-- Every region with a draw of which 'regW' holds. -/
theorem draws_sound (hmix : P.follows .mixedOrders = true) : Draws P esc := by
  intro ro S w h lm B fr a H F hB ops id K hK Q hg
  simp only [regW] at hK
  split at hK
  · rename_i plan hz hplan
    unfold regPlan at hplan
    simp only at hplan
    split at hplan
    · rename_i hok
      cases hplan
      generalize hanc0 : ancOf (ops.toList.map bindsOf) (asap ((ops.toList.map bindsOf).map maskOf) (ops.toList.map (sortOf esc)) ops.toList.length 0) [] = anc at hok hK
      generalize planOf ops.toList (ops.toList.map (sortOf esc)) anc (asap ((ops.toList.map bindsOf).map maskOf) (ops.toList.map (sortOf esc)) ops.toList.length 0) [] = plan at hok hK
      unfold planOk at hok
      simp only [Bool.and_eq_true] at hok
      obtain ⟨⟨⟨⟨⟨⟨⟨c1, c2⟩, c3⟩, c4⟩, c5⟩, c6⟩, c7⟩, c8⟩ := hok
      have hlen : plan.length = ops.toList.length := Nat.eq_of_beq_eq_true c1
      have hnd := nodupN_iff c2
      have hone : ∀ p ∈ plan, oneOk ops.toList esc anc p = true := fun p hp => List.all_eq_true.1 c5 p hp
      have hin : ∀ p ∈ plan, p.1 < ops.toList.length := fun p hp => by
        obtain ⟨x, hx⟩ := one_op (hone p hp)
        exact (List.getElem?_eq_some_iff.1 hx).1
      have hall : ∀ i, i < ops.toList.length → i ∈ plan.map (·.1) := fun i hi => hasN_iff.1 (List.all_eq_true.1 c8 i (List.mem_range.2 hi))
      have hb : ∀ (i : Nat) (o : Oper) (j : Nat), ops.toList[i]? = some o → j ∈ bindsOf o → j < ops.toList.length := fun i o j ho hj => by
        have := List.all_eq_true.1 (List.all_eq_true.1 c7 o (List.mem_of_getElem? ho)) j hj
        exact Nat.le_of_ble_eq_true this
      have G : Open ops.toList esc anc plan (Array.replicate ops.size false) :=
        { size := by simp, nodup := hnd, one := hone, pairs := pairs_iff c6
          mem := fun i hi => by
            have hi' : i < ops.size := by simpa using hi
            have e : (Array.replicate ops.size false).getD i true = false := by simp [hi']
            rw [e]
            simp only [true_iff]
            exact hall i hi
          closed := fun i q hi => by
            by_cases hi' : i < ops.size
            · simp [hi'] at hi
            · simp [hi'] at hi }
      obtain ⟨F1, n1, _⟩ := kill_sound (begun esc ops.toList) F
      have bl : Below w.heap.size w { w with drawn := w.drawn + 1 } := ⟨rfl, rfl, rfl, Nat.le_refl _, fun _ _ => rfl⟩
      refine wpIn_region_any hmix ?_
      have hsz : ops.size = plan.length := by rw [hlen]; simp
      have := any_sound (P := P) (esc := esc) (B := B) (Q := Q) (ro := ro) hz c4 hb plan (Array.replicate ops.size false) G (H.below bl) (F1.below H bl) hB
        (fun p _ o ho d hd => n1 d (begun_mem hd (List.mem_of_getElem? ho))) hK
        (fun S' w' h' fr' lm' a' k H' F' L' => hg S' w' h' fr' lm' a' k H' F' (Le.trans H ((Le.below _ H bl)) L'))
      rw [hsz]
      rw [← hsz] at this ⊢
      simpa using this
    · cases hplan
  · exact hK.elim
end
end Jb
end

section
/- What the library is used by. -/
namespace Jb
open Go

/-- A function whose body gives what is asked: the way in. -/
theorem CallW.body {P : Program} (hmix : P.follows .mixedOrders = true) (cf : Cfg) {f : FuncId} {fn : Func} (hf : P.funcs[f]? = some fn) {args : List V} (hn : args.length ≤ fn.ntmps) {h : Heap} {K : V → Heap → Prop}
    (hK : bodyW P cf fn args h K) (hr0 : cf.rnd = false := by rfl) : CallW P f args h K :=
  call_sound (draws_sound hmix) hr0 hf hn hK

theorem AnyW.call {P : Program} {f : FuncId} (he : enters P f = true) {args : List V} {h : Heap} {K : V → Heap → Prop} (c : CallW P f args h K) : AnyW P f args h K := by
  unfold AnyW; rw [he]; exact c

section
variable {P : Program} {esc : List Nat} {ops : List Oper}

theorem opW_mono' {o : Oper} {fr : Fr} {h : Heap} {K K' : Fr → Heap → Prop} (hK : opW P esc ops o fr h K) (m : ∀ f h', K f h' → K' f h') : opW P esc ops o fr h K' := opW_mono hK fun f h' _ k => m f h' k

theorem opsW_mono {K K' : Fr → Heap → Prop} (m : ∀ f h', K f h' → K' f h') : ∀ {l : List Oper} {fr : Fr} {h : Heap}, opsW P esc ops l fr h K → opsW P esc ops l fr h K'
  | [], _, _, k => m _ _ k
  | _ :: _, _, _, k => opW_mono' k fun _ _ k => opsW_mono m k

theorem runD_mono {K K' : Fr → Heap → Prop} (m : ∀ f h', K f h' → K' f h') : ∀ {l : List (Nat × List Nat)} {fr : Fr} {h : Heap}, runD P esc ops l fr h K → runD P esc ops l fr h K'
  | [], _, _, k => m _ _ k
  | (i, rc) :: l, fr, h, k => by
    simp only [runD] at k ⊢
    split at k
    · exact k
    · refine opW_mono' k fun f h' k => ?_
      rw [againsG_iff] at k ⊢
      exact ⟨k.1, runD_mono m k.2⟩

theorem regW_mono {draw : Bool} {fr : Fr} {h : Heap} {K K' : Fr → Heap → Prop} (m : ∀ f h', K f h' → K' f h') (k : regW P esc ops draw fr h K) : regW P esc ops draw fr h K' := by
  unfold regW at *
  split at k
  · split at k
    · exact opsW_mono m k
    · exact k
  · split at k
    · exact runD_mono m k
    · exact k

theorem seqK_mono {y y' : Fr → Heap → Prop} {Q Q' : Ex → Fr → Heap → Prop} (hy : ∀ f h, y f h → y' f h) (m : ∀ e f h', Q e f h' → Q' e f h') : ∀ e f h', seqK y Q e f h' → seqK y' Q' e f h' := by
  intro e f h' k
  cases e with
  | normal => exact hy _ _ k
  | exit i => exact m _ _ _ k
  | goto i => exact m _ _ _ k
  | ret => exact m _ _ _ k

theorem blockK_mono {id : Nat} {Q Q' : Ex → Fr → Heap → Prop} (m : ∀ e f h', Q e f h' → Q' e f h') : ∀ e f h', blockK id Q e f h' → blockK id Q' e f h' := by
  intro e f h' k
  cases e with
  | normal => exact m _ _ _ k
  | exit i =>
    simp only [blockK] at k ⊢
    split at k
    · exact m _ _ _ k
    · exact m _ _ _ k
  | goto i => exact m _ _ _ k
  | ret => exact m _ _ _ k

theorem LoopI.mono {B : Fr → Heap → (Ex → Fr → Heap → Prop) → Prop} (hB : ∀ {fr h Q Q'}, (∀ e f h', Q e f h' → Q' e f h') → B fr h Q → B fr h Q') {Q Q' : Ex → Fr → Heap → Prop} (m : ∀ e f h', Q e f h' → Q' e f h') {fr : Fr} {h : Heap}
    (k : LoopI B Q fr h) : LoopI B Q' fr h := by
  induction k with
  | mk fr h I hb hi ih => exact .mk fr h I (hB (seqK_mono (fun _ _ k => k) m) hb) ih

theorem loopEnd_mono {h : Heap} {l : Nat} {K K' : Ex → Heap → Prop} (m : ∀ e h', K e h' → K' e h') (k : loopEnd h l K) : loopEnd h l K' := by
  unfold loopEnd at *
  split at k
  · exact m _ _ k
  · split at k
    · exact m _ _ k
    · exact k
  · exact k

theorem scopeK_mono {c : Code} {y y' : Nat → Fr → Heap → Prop} {Q Q' : Ex → Fr → Heap → Prop} (hy : ∀ l f h, y l f h → y' l f h) (m : ∀ e f h', Q e f h' → Q' e f h') : ∀ e f h', scopeK c y Q e f h' → scopeK c y' Q' e f h' := by
  intro e f h' k
  cases e with
  | normal => exact m _ _ _ k
  | exit i => exact m _ _ _ k
  | ret => exact m _ _ _ k
  | goto l =>
    simp only [scopeK] at k ⊢
    split at k
    · exact hy _ _ _ k
    · exact m _ _ _ k

theorem ScopeI.mono {c : Code} {B : Nat → Fr → Heap → (Ex → Fr → Heap → Prop) → Prop} (hB : ∀ {l fr h Q Q'}, (∀ e f h', Q e f h' → Q' e f h') → B l fr h Q → B l fr h Q') {Q Q' : Ex → Fr → Heap → Prop} (m : ∀ e f h', Q e f h' → Q' e f h') {l : Nat} {fr : Fr} {h : Heap}
    (k : ScopeI c B Q l fr h) : ScopeI c B Q' l fr h := by
  induction k with
  | mk l fr h I hb hi ih => exact .mk l fr h I (hB (scopeK_mono (fun _ _ _ k => k) m) hb) ih

theorem wpAL_mono {cf : Cfg} (c : Code) : (∀ {fr : Fr} {h : Heap} {Q Q' : Ex → Fr → Heap → Prop}, (∀ e f h', Q e f h' → Q' e f h') → wpA P cf c fr h Q → wpA P cf c fr h Q') ∧
    (∀ {l : Nat} {fr : Fr} {h : Heap} {Q Q' : Ex → Fr → Heap → Prop}, (∀ e f h', Q e f h' → Q' e f h') → wpL P cf c l fr h Q → wpL P cf c l fr h Q') := by
  induction c with
  | skip => exact ⟨fun m k => by unfold wpA at k ⊢; exact m _ _ _ k, fun m k => by unfold wpL at k; exact k.elim⟩
  | label l => exact ⟨fun m k => by unfold wpA at k ⊢; exact m _ _ _ k, fun m k => by unfold wpL at k ⊢; exact m _ _ _ k⟩
  | exit id => exact ⟨fun m k => by unfold wpA at k ⊢; exact m _ _ _ k, fun m k => by unfold wpL at k; exact k.elim⟩
  | goto id => exact ⟨fun m k => by unfold wpA at k ⊢; exact m _ _ _ k, fun m k => by unfold wpL at k; exact k.elim⟩
  | ret => exact ⟨fun m k => by unfold wpA at k ⊢; exact m _ _ _ k, fun m k => by unfold wpL at k; exact k.elim⟩
  | region id ops draw => exact ⟨fun m k => by unfold wpA at k ⊢; exact regW_mono (fun f h' k => m _ _ h' k) k, fun m k => by unfold wpL at k; exact k.elim⟩
  | seq x y ihx ihy =>
    refine ⟨fun m k => by unfold wpA at k ⊢; exact ihx.1 (seqK_mono (fun _ _ k => ihy.1 m k) m) k, fun m k => ?_⟩
    unfold wpL at k ⊢
    split
    · rename_i hl; simp only [hl] at k; exact ihx.2 (seqK_mono (fun _ _ k => ihy.1 m k) m) k
    · rename_i hl; simp only [hl] at k; exact ihy.2 m k
  | cond c x y ihx ihy =>
    refine ⟨?_, fun m k => by unfold wpL at k; exact k.elim⟩
    intro fr h Q Q' m k
    unfold wpA at k ⊢
    generalize fr.ev c = v at k ⊢
    cases v <;> try exact k.elim
    rename_i b
    cases b with
    | true => exact ihx.1 m k
    | false => exact ihy.1 m k
  | block id c ih => exact ⟨fun m k => by unfold wpA at k ⊢; exact ih.1 (blockK_mono m) k, fun m k => by unfold wpL at k; exact k.elim⟩
  | loop c ih =>
    refine ⟨?_, fun m k => by unfold wpL at k; exact k.elim⟩
    intro fr h Q Q' m k
    unfold wpA at k ⊢
    exact LoopI.mono (B := fun fr h Q => wpA P cf c fr h Q) (fun m k => ih.1 m k) m k
  | scope c ih =>
    refine ⟨?_, fun m k => by unfold wpL at k; exact k.elim⟩
    intro fr h Q Q' m k
    unfold wpA at k ⊢
    exact ih.1 (scopeK_mono (fun _ _ _ k => ScopeI.mono (B := fun l fr h Q => wpL P cf c l fr h Q) (fun m k => ih.2 m k) m k) m) k
  | rangeFunc f ps zs b _ _ =>
    refine ⟨?_, fun m k => by unfold wpL at k; exact k.elim⟩
    intro fr h Q Q' m k
    unfold wpA at k ⊢
    unfold rangeW at k ⊢
    split at k
    · exact ⟨k.1, fun l hl => (k.2 l hl).mono fun _ h' k => loopEnd_mono (fun e h' k => m e _ h' k) k⟩
    · exact k
  | refuse s => exact ⟨fun _ k => by unfold wpA at k; exact k.elim, fun m k => by unfold wpL at k; exact k.elim⟩

theorem wpA_mono {cf : Cfg} (c : Code) : ∀ {fr : Fr} {h : Heap} {Q Q' : Ex → Fr → Heap → Prop}, (∀ e f h', Q e f h' → Q' e f h') → wpA P cf c fr h Q → wpA P cf c fr h Q' := (wpAL_mono c).1

/-- A statement cut in two: what holds between. -/
theorem wpA_cut {cf : Cfg} {a b : Code} {fr : Fr} {h : Heap} {Q : Ex → Fr → Heap → Prop} (I : Fr → Heap → Prop)
    (ha : wpA P cf a fr h (seqK I Q)) (hb : ∀ f h', I f h' → wpA P cf b f h' Q) : wpA P cf (.seq a b) fr h Q :=
  wpA_mono a (seqK_mono hb (fun _ _ _ k => k)) ha

/-- A loop of which the frames at the head have a state each. 'Inv' is what holds of the states; 'm' what gets less. -/
theorem loop_of {B : Fr → Heap → (Ex → Fr → Heap → Prop) → Prop} {Q : Ex → Fr → Heap → Prop} {σ : Type} (mk : σ → Fr) (hp : σ → Heap) (m : σ → Nat) (Inv : σ → Prop)
    (round : ∀ s, Inv s → B (mk s) (hp s) (seqK (fun f h' => ∃ s', f = mk s' ∧ h' = hp s' ∧ Inv s' ∧ m s' < m s) Q)) :
    ∀ s, Inv s → LoopI B Q (mk s) (hp s) := by
  intro s
  induction hk : m s using Nat.strongRecOn generalizing s with
  | _ k ih =>
    intro hI
    refine .mk _ _ (fun f h' => ∃ s', f = mk s' ∧ h' = hp s' ∧ Inv s' ∧ m s' < m s) (round s hI) ?_
    rintro f h' ⟨s', rfl, rfl, hI', hlt⟩
    exact ih (m s') (by omega) s' rfl hI'

/-- ... at a statement. -/
theorem wpA_loop {P : Program} {cf : Cfg} {c : Code} {fr : Fr} {h : Heap} {Q : Ex → Fr → Heap → Prop} {σ : Type} (mk : σ → Fr) (hp : σ → Heap) (m : σ → Nat) (Inv : σ → Prop) (s : σ) (e1 : fr = mk s) (e2 : h = hp s) (hI : Inv s)
    (round : ∀ s, Inv s → wpA P cf c (mk s) (hp s) (seqK (fun f h' => ∃ s', f = mk s' ∧ h' = hp s' ∧ Inv s' ∧ m s' < m s) Q)) : wpA P cf (.loop c) fr h Q := by
  subst e1 e2
  exact loop_of mk hp m Inv round s hI

/-- A piece of code, by the way to it. -/
def codeAt : List Nat → Code → Code
  | [], c => c
  | 0 :: p, .seq a _ => codeAt p a
  | _ :: p, .seq _ b => codeAt p b
  | 0 :: p, .cond _ a _ => codeAt p a
  | _ :: p, .cond _ _ b => codeAt p b
  | _ :: p, .block _ b => codeAt p b
  | _ :: p, .loop b => codeAt p b
  | _ :: p, .scope b => codeAt p b
  | _, c => c

/-- Another piece of code there. -/
def plug : List Nat → Code → Code → Code
  | [], _, x => x
  | 0 :: p, .seq a b, x => .seq (plug p a x) b
  | _ :: p, .seq a b, x => .seq a (plug p b x)
  | 0 :: p, .cond c a b, x => .cond c (plug p a x) b
  | _ :: p, .cond c a b, x => .cond c a (plug p b x)
  | _ :: p, .block i b, x => .block i (plug p b x)
  | _ :: p, .loop b, x => .loop (plug p b x)
  | _ :: p, .scope b, x => .scope (plug p b x)
  | _, c, _ => c

/-- A piece of code that is not looked into. -/
noncomputable def hide (c : Code) : Code := (Classical.choice (⟨⟨c, rfl⟩⟩ : Nonempty { x : Code // x = c })).1
theorem hide_eq (c : Code) : hide c = c := (Classical.choice (⟨⟨c, rfl⟩⟩ : Nonempty { x : Code // x = c })).2
theorem wpA_at {P : Program} {cf : Cfg} {n m : Code} (e : n = m) {fr : Fr} {h : Heap} {Q : Ex → Fr → Heap → Prop} {R : Prop} (k : wpA P cf m fr h Q = R) : wpA P cf n fr h Q = R := by rw [e]; exact k

def bodyOf (fn : Func) : Code := match fn.body with | some c => c | none => .skip
end
end Jb
end

section
/- A round of a range over a function. -/
namespace Jb
open Go Go.RowKit

def setTm (ps : List Nat) (args : List V) (tm : List V) : List V := (ps.zip args).foldl (fun tm e => tm.set e.1 e.2) tm

/-- What stands behind a round: the record tells how it was left. -/
def roundK (l : Nat) (K : V → Heap → Prop) (e : Ex) (_ : Fr) (h : Heap) : Prop :=
  match h l with
  | some (.obj (.loop _ ps tm asg body)) => (match e with
    | .normal => K (.bool true) (h.upd l (.obj (.loop .ready ps tm asg body)))
    | .exit i => K (.bool false) (h.upd l (.obj (.loop (.done (.exit i)) ps tm asg body)))
    | .goto i => K (.bool false) (h.upd l (.obj (.loop (.done (.goto i)) ps tm asg body)))
    | .ret => K (.bool false) (h.upd l (.obj (.loop (.done .ret) ps tm asg body))))
  | _ => False

/-- A round. -/
def roundW (P : Program) (g : Cfg) (l : Nat) (args : List V) (h : Heap) (K : V → Heap → Prop) : Prop :=
  match h l with
  | some (.obj (.loop .ready ps tm asg body)) => ps.length = args.length ∧
    wpA P g asg { tm := setTm ps args tm, lc := [] } h fun e fr h1 => match e, h1 l with
      | .normal, some (.obj (.loop .ready ps' tm' asg' body')) => wpA P g body fr (h1.upd l (.obj (.loop .busy ps' tm' asg' body'))) (roundK l K)
      | _, _ => False
  | _ => False

section
variable {P : Program} {S : Sim} {w : World} {h : Heap} {lm : Nat → Option Nat} {B : Nat} {fr : Fr} {a : Act} {esc : List Nat} {cf : Cfg}

theorem set_rel {vs : List V} {ts : Array Value} (hr : RelL S w vs ts.toList) : ∀ (ps : List Nat) (args : List V) (xs : List Value), RelL S w args xs → ps.length = args.length →
    RelL S w (setTm ps args vs) ((ps.zip xs).foldl (fun ts e => ts.setIfInBounds e.1 e.2) ts).toList := by
  intro ps
  induction ps generalizing vs ts with
  | nil => intro args xs _ _; simpa [setTm] using hr
  | cons p ps ih =>
    intro args xs ha hl
    cases args with
    | nil => simp at hl
    | cons v args =>
      cases xs with
      | nil => have := ha.1; simp at this
      | cons x xs =>
        obtain ⟨h1, h2⟩ := ha.tail
        have := ih (vs := vs.set p v) (ts := ts.setIfInBounds p x) (by simpa using hr.set p h1) args xs h2 (by simpa using hl)
        simpa [setTm] using this

theorem round0_rel {vs : List V} {ts : Array Value} (hr : RelL S w vs ts.toList) : FR w.heap.size S w h { tm := vs, lc := [] } (fun _ => none) { tmps := ts, defers := [] } :=
  { size := by have := hr.1; simpa using this
    tm := fun i v hv => by
      simp only at hv
      have hi : i < ts.size := by have := hr.1; have := (List.getElem?_eq_some_iff.1 hv).1; simp at *; omega
      have e : ts.getD i Go.undef = ts[i] := by simp [Array.getD, hi]
      simp only
      rw [e]
      exact .of_rel (hr.2 i v _ hv (by simp [hi]))
    vars := fun _ he => by simp at he
    inj := fun _ _ _ e => by cases e
    lb := fun _ _ e => by cases e
    lo := fun _ _ e => by cases e
    nd := by simp
    dfs := ⟨(fun d hd => by cases hd), List.Pairwise.nil⟩ }

theorem yield_sound (hd : Draws P cf.esc) (hr0 : cf.rnd = true) {l : Nat} {args : List V} {h : Heap} {K : V → Heap → Prop} (hK : roundW P cf l args h K) : YieldW P l args h K := by
  intro S w xs H hr
  unfold roundW at hK
  split at hK
  case h_2 => exact hK.elim
  rename_i ps tm asg body hl
  obtain ⟨hlen, hK⟩ := hK
  obtain ⟨_, o, ho, r, rfl, hp, ha, hb, htm, hst⟩ := H.obs l _ hl
  subst ha
  subst hb
  have hps : ps.length = r.params.size := by rw [← hp]; simp
  have hsz : xs.toArray.size = r.params.size := by
    have := hr.1
    simp only [List.size_toArray]
    omega
  have hy := run_yield (P := P) ho hsz
  refine ⟨_, _, _, _, hy, ?_⟩
  have hrel := set_rel htm ps args xs hr hlen
  have htm' : (r.params.zip xs.toArray).foldl (fun tmps (t, a) => tmps.setIfInBounds t a) r.tmps = (ps.zip xs).foldl (fun ts e => ts.setIfInBounds e.1 e.2) r.tmps := by
    rw [← hp, ← Array.foldl_toList]
    simp
  rw [htm']
  have F0 := round0_rel (h := h) hrel
  refine roundIn_of_wpIn trivial (wpA_sound hd (ro := some l) hr0 r.assign H F0 (Nat.le_refl _) hK ?_)
  intro e S1 w1 h1 fr1 lm1 a1 hk H1 F1 L1
  split at hk
  case h_2 => exact hk.elim
  rename_i ps' tm' asg' body' hl1
  obtain ⟨_, o1, ho1, r1, rfl, hp1, ha1, hb1, htm1, hst1⟩ := H1.obs l _ hl1
  obtain ⟨H2, L2⟩ := obj_turn H1 hl1 (.loop { r1 with state := .busy }) (q' := .loop .busy ps' tm' asg' body') ⟨_, rfl, hp1, ha1, hb1, htm1, trivial⟩
  refine ⟨_, run_beginRound ho1 hst1.1, ?_⟩
  have L12 := Le.trans H L1 (L2.weaken (fun rb => w.heap.size ≤ rb))
  have F2 := F1.le H1 L2
  refine wpA_sound hd (ro := some l) hr0 r.body H2 F2 L12.size hk ?_
  intro e S3 w3 h3 fr3 lm3 a3 hk3 H3 F3 L3
  have L13 := Le.trans H L12 L3
  unfold roundK at hk3
  split at hk3
  case h_2 => exact hk3.elim
  rename_i st3 ps3 tm3 asg3 body3 hl3
  obtain ⟨_, o3, ho3, r3, rfl, hp3, ha3, hb3, htm3, _⟩ := H3.obs l _ hl3
  have fin : ∀ (jump : Option Code) (st : LSt) (b : Bool), b = jump.isNone → st.rel { r3 with state := if jump.isNone then .ready else .done, pending := jump } → K (.bool b) (h3.upd l (.obj (.loop st ps3 tm3 asg3 body3))) →
      ∃ v w', (Instr.endRound l jump).run P w3 = .ok v w' ∧ ∃ r x h' S', Ending.returned v = .returned x ∧ K r h' ∧ HR S' w' h' ∧ Rel S' w' r x ∧ Le (fun _ => False) h S w h' S' w' := by
    intro jump st b hb hs hk
    obtain ⟨H4, L4⟩ := obj_turn H3 hl3 (.loop { r3 with state := if jump.isNone then .ready else .done, pending := jump }) (q' := .loop st ps3 tm3 asg3 body3) ⟨_, rfl, hp3, ha3, hb3, htm3, hs⟩
    exact ⟨_, _, run_endRound jump ho3, _, _, _, _, rfl, hk, H4, by rw [hb]; exact .bool _, (Le.trans H L13 (L4.weaken _)).narrow H⟩
  cases e with
  | normal => exact fin none .ready true rfl ⟨rfl, rfl⟩ hk3
  | exit i => exact fin (some (.exit i)) (.done (.exit i)) false rfl ⟨rfl, rfl⟩ hk3
  | goto i => exact fin (some (.goto i)) (.done (.goto i)) false rfl ⟨rfl, rfl⟩ hk3
  | ret => exact fin (some .ret) (.done .ret) false rfl ⟨rfl, rfl⟩ hk3
end

/-- A round whose body gives what is asked. -/
theorem YieldW.round {P : Program} (hmix : P.follows .mixedOrders = true) (cf : Cfg) {l : Nat} {args : List V} {h : Heap} {K : V → Heap → Prop} (hK : roundW P cf l args h K) (hr0 : cf.rnd = true := by rfl) : YieldW P l args h K :=
  yield_sound (draws_sound hmix) hr0 hK
end Jb
end
