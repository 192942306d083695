/- Proved here: of JO8, that what the Go functions of this part compute is as their contracts say (texts Jn, Jo, Jp), for every input; no condition beyond those that each theorem states. -/
import Derived.Test.YtoimhhmlkbdodaaGreatJO7
set_option linter.all false
section
/- What files have, as the document tells it. -/
namespace J
open Go Go.Proofs Jb Js
set_option maxRecDepth 100000
set_option maxHeartbeats 4000000


theorem c13 {args : List V} {h : Heap} {K : V → Heap → Prop} (hn : Nat.ble args.length Tryz.f13.ntmps = true) (e : Nx (bodyS Tryz.prog ⟨[], [(2, [3, 1, 2, 95], []), (4, [3, 1, 2, 95], []), (7, [3, 1, 3, 1, 1, 92], []), (11, [3, 1, 3, 1, 1, 92], []), (17, [3, 1, 1, 7, 2, 87], []), (19, [3, 1, 1, 7, 2, 87], [])], false⟩ Tryz.f13 args h K)) : CallW Tryz.prog 13 args h K := CallW.go mix _ Tryz.func13 (Nat.le_of_ble_eq_true hn) rfl e
theorem n13 : enters Tryz.prog 13 = true := by kernel_rfl
theorem can_len {h : Heap} {g g' : G} {es n : Nat} {α : Type} {l : List Nat} {x : Nat} {y : α} (hg : GNew es n h g g') : Can g' es (l ++ [x]).length (gr h g' es (l.length + [y].length)) := by
  rw [List.length_append]; exact can_gr hg
def iw (l : List Nat) : List (List V) := l.map fun (x : Nat) => [V.int .i64 (x : Int)]
theorem iw_len (l : List Nat) : (iw l).length = l.length := by simp [iw]
theorem iw_at {l : List Nat} {i : Nat} (h : i < l.length) : (iw l)[i]? = some [.int .i64 (l.getD i 0)] := by simp [iw, h]
theorem iw_part (l : List Nat) (i j : Nat) : ((iw l).take j).drop i = iw ((l.take j).drop i) := by simp [iw, List.map_drop, List.map_take]
theorem iw_app (l m : List Nat) : iw l ++ iw m = iw (l ++ m) := by simp [iw]
theorem iw_snoc (l : List Nat) (x : Nat) : iw l ++ [[.int .i64 (x : Int)]] = iw (l ++ [x]) := by simp [iw]
theorem own_step {h0 H : Heap} {es n : Nat} {g g' : G} (s : h0.Sub H) (o : ∀ t, g = .own t → h0 t = none) (y : g ≠ .no) (c : GNew es n H g g') : ∀ t, g' = .own t → h0 t = none := fun t e => by
  cases g with
  | full =>
    cases hb : h0 t with
    | none => rfl
    | some v => have := c.new rfl t e; rw [s t v hb] at this; cases this
  | own u =>
    have := c.own u rfl
    rw [this] at e; cases e
    exact o _ rfl
  | no => exact (y rfl).elim
theorem sub_three {h0 h : Heap} {es n1 n2 m1 m2 m3 : Nat} {g1 g2 g3 : G} (s : h0.Sub h) (a : GNew es 0 h .full g1) (b : GNew es n1 (gr h g1 es m1) g1 g2) (c : GNew es n2 (gr (gr h g1 es m1) g2 es m2) g2 g3) : h0.Sub (gr (gr (gr h g1 es m1) g2 es m2) g3 es m3) := by
  have o1 := own_step s (by simp) (by simp) a
  have s1 : h0.Sub (gr h g1 es m1) := sub_gr a o1 s
  have o2 := own_step s1 o1 a.yes b
  have s2 : h0.Sub (gr (gr h g1 es m1) g2 es m2) := sub_gr b o2 s1
  exact sub_gr c (own_step s2 o2 b.yes c) s2
theorem insR_skip (key : Nat → Nat) (x : Nat) : ∀ (C D : List Nat), (∀ y ∈ C, key x < key y) → insR key x (C ++ D) = C ++ insR key x D
  | [], _, _ => rfl
  | y :: r, D, h => by
    simp only [List.cons_append, insR, if_pos (h y (by simp))]
    rw [insR_skip key x r D fun z hz => h z (by simp [hz])]
theorem insR_at (key : Nat → Nat) (x : Nat) (l : List Nat) (p : Nat) (hp : p ≤ l.length) (h1 : ∀ y ∈ l.drop p, key x < key y) (h2 : p = 0 ∨ ¬ key x < key (l.getD (p - 1) 0)) :
    (insR key x l.reverse).reverse = l.take p ++ [x] ++ l.drop p := by
  have e : l.reverse = (l.drop p).reverse ++ (l.take p).reverse := by rw [← List.reverse_append, List.take_append_drop]
  rw [e, insR_skip key x _ _ (by simpa using h1)]
  have e2 : insR key x (l.take p).reverse = x :: (l.take p).reverse := by
    rcases h2 with rfl | h2
    · rfl
    · cases p with
      | zero => rfl
      | succ p =>
        have e3 : l.take (p + 1) = l.take p ++ [l.getD p 0] := by
          rw [List.take_succ_eq_append_getElem (by omega)]; simp [show p < l.length from by omega]
        rw [e3, List.reverse_append]
        simp only [List.reverse_singleton, List.singleton_append, insR]
        rw [if_neg (by simpa using h2)]
  rw [e2]
  simp
theorem fa_len {fs : List (List UInt8)} (hb : ∀ b ∈ fs, b.length ≤ 1048576) (i : Nat) : (fa fs i).length ≤ 1048576 := by
  unfold fa; rw [List.getD_eq_getElem?_getD]
  cases he : fs[i]? with
  | none => simp
  | some b => have := hb b (List.mem_of_getElem? he); simp; omega
def runF (fs : List (List UInt8)) : Bool → Ent → List Ent → List Nat → Option (Ent × List Ent)
  | _, F, L, [] => some (F, L)
  | old, F, L, x :: r => match steps old ⟨F, L, false, 0⟩ (fa fs x) with
    | none => none
    | some t => if (endC (fa fs x) == 0 || (endC (fa fs x) == 31 && r.isEmpty)) = true then runF fs false t.F t.L r else none
theorem runF_go (fs : List (List UInt8)) (old : Bool) (F : Ent) (L : List Ent) (x : Nat) (r : List Nat) : runF fs old F L (x :: r) = match steps old ⟨F, L, false, 0⟩ (fa fs x) with
    | none => none
    | some t => if (endC (fa fs x) == 0 || (endC (fa fs x) == 31 && r.isEmpty)) = true then runF fs false t.F t.L r else none := rfl
def outF (fs : List (List UInt8)) : Ent × List Ent × Nat := match runF fs true ⟨0, 0, []⟩ [] (ord fs) with
  | some (F, L) => (F, L, 0)
  | none => (⟨0, 0, []⟩, [], 20)
def sof (fs : List (List UInt8)) (i : Nat) : List Nat := sortI (fk fs) (ordL fs i)
theorem sof_mem {fs : List (List UInt8)} {i x : Nat} (h : x ∈ sof fs i) : x < i := ordL_lt ((sort_mem (fk fs) x _ (ordL fs i) rfl).1 h)
theorem sof_len {fs : List (List UInt8)} (i : Nat) : (sof fs i).length ≤ i := by unfold sof; rw [sort_len _ _ _ rfl]; exact ordL_len fs i
theorem sof_no {fs : List (List UInt8)} {i : Nat} (h : fhOk (fa fs i) = false) : sof fs (i + 1) = sof fs i := by unfold sof; rw [ordL_no h]
theorem sof_yes {fs : List (List UInt8)} {i p : Nat} (h : fhOk (fa fs i) = true) (hp : p ≤ (sof fs i).length) (h1 : ∀ y ∈ (sof fs i).drop p, fhSer (fa fs i) < fhSer (fa fs y)) (h2 : p = 0 ∨ ¬ fhSer (fa fs i) < fhSer (fa fs ((sof fs i).getD (p - 1) 0))) :
    sof fs (i + 1) = (sof fs i).take p ++ [i] ++ (sof fs i).drop p := by
  rw [← insR_at (fk fs) i (sof fs i) p hp h1 h2]
  unfold sof
  rw [ordL_yes h, sort_snoc]
theorem Wf.steps {old : Bool} : ∀ (n : Nat) (s t : FS) (b : List UInt8) (m : Nat), b.length ≤ n → Wf s b m → J.steps old s b = some t → Wf t [] m
  | n, s, t, b, m, hn, w, e => by
    by_cases h : tkE b = 0
    · have q := tk_len h
      rw [steps_go h] at e
      cases h1 : step1 old s (tkK b) (tkB b) with
      | none => rw [h1] at e; cases e
      | some s1 =>
        rw [h1] at e
        cases n with
        | zero => omega
        | succ n => exact Wf.steps n s1 t _ m (by simp only [List.length_drop]; omega) (w.step h h1) e
    · rw [steps_end h] at e; cases e
      exact ⟨w.nob, w.ixs, by have := w.len; simp only [List.length_nil]; omega, w.own⟩
structure RS (fs : List (List UInt8)) (j : Nat) (F : Ent) (L : List Ent) : Prop where
  nob : F.b = []
  ixs : ∀ i, i < L.length → (ea L i).ix = F.ix + 1 + i
  len : L.length ≤ 1048576 * j
  run : runF fs (j == 0) F L ((ord fs).drop j) = runF fs true ⟨0, 0, []⟩ [] (ord fs)
theorem RS.wf {fs : List (List UInt8)} {j : Nat} {F : Ent} {L : List Ent} (r : RS fs j F L) (hj : j < 10) (hb : ∀ b ∈ fs, b.length ≤ 1048576) (x : Nat) : Wf ⟨F, L, false, 0⟩ (fa fs x) 4294967100 := by
  have := r.len; have := fa_len hb x
  exact ⟨r.nob, r.ixs, by simp only; omega, by simp⟩
theorem ord_drop {fs : List (List UInt8)} {j : Nat} (h : j < (ord fs).length) : (ord fs).drop j = (ord fs).getD j 0 :: (ord fs).drop (j + 1) := by
  rw [List.drop_eq_getElem_cons h]; simp [h]
theorem ord_at {fs : List (List UInt8)} {j : Nat} (h : j < (ord fs).length) : (ord fs).getD j 0 < fs.length ∧ fhOk (fa fs ((ord fs).getD j 0)) = true := by
  refine ord_mem (fs := fs) (x := (ord fs).getD j 0) ?_
  simp [h]
theorem fhOk_k {b : List UInt8} (h : fhOk b = true) : tkK b = 1 := by
  unfold fhOk hdOk at h
  simp at h
  exact h.2.1
theorem isEmpty_drop {l : List Nat} {j : Nat} (h : j < l.length) : (l.drop (j + 1)).isEmpty = decide (j = l.length - 1) := by
  rw [Bool.eq_iff_iff]; simp; omega
theorem RS.no {fs : List (List UInt8)} {j : Nat} {F F' : Ent} {L L' : List Ent} {old new ok : Bool} (r : RS fs j F L) (hj : j < (ord fs).length) (ho : old = (j == 0)) (hn : new = decide (j = (ord fs).length - 1)) (hok : ok = false)
    (e : match steps old ⟨F, L, false, 0⟩ (fa fs ((ord fs).getD j 0)) with | some t => ok = (endC (fa fs ((ord fs).getD j 0)) == 0 || (endC (fa fs ((ord fs).getD j 0)) == 31 && new)) ∧ F' = t.F ∧ L' = t.L | none => ok = false) : outF fs = (⟨0, 0, []⟩, [], 20) := by
  subst hok
  have := r.run
  rw [ord_drop hj, runF_go, ← ho] at this
  unfold outF
  rw [← this]
  cases hs : steps old ⟨F, L, false, 0⟩ (fa fs ((ord fs).getD j 0)) with
  | none => rfl
  | some t =>
    rw [hs] at e
    simp only at e
    rw [isEmpty_drop hj, ← hn, ← e.1]
    rfl
theorem RS.yes {fs : List (List UInt8)} {j : Nat} {F F' : Ent} {L L' : List Ent} {old new ok : Bool} (r : RS fs j F L) (hj : j < (ord fs).length) (h10 : j < 10) (hb : ∀ b ∈ fs, b.length ≤ 1048576) (ho : old = (j == 0)) (hn : new = decide (j = (ord fs).length - 1)) (hok : ok = true)
    (e : match steps old ⟨F, L, false, 0⟩ (fa fs ((ord fs).getD j 0)) with | some t => ok = (endC (fa fs ((ord fs).getD j 0)) == 0 || (endC (fa fs ((ord fs).getD j 0)) == 31 && new)) ∧ F' = t.F ∧ L' = t.L | none => ok = false) : RS fs (j + 1) F' L' := by
  subst hok
  cases hs : steps old ⟨F, L, false, 0⟩ (fa fs ((ord fs).getD j 0)) with
  | none => rw [hs] at e; cases e
  | some t =>
    rw [hs] at e
    obtain ⟨e1, rfl, rfl⟩ := e
    have w0 := r.wf h10 hb ((ord fs).getD j 0)
    have l1 := fa_len hb ((ord fs).getD j 0)
    have l2 := r.len
    have w1 : Wf ⟨F, L, false, 0⟩ (fa fs ((ord fs).getD j 0)) (1048576 * (j + 1)) := ⟨w0.nob, w0.ixs, by simp only; omega, w0.own⟩
    have w := Wf.steps _ _ _ _ _ (Nat.le_refl _) w1 hs
    refine ⟨w.nob, w.ixs, by have := w.len; simp only [List.length_nil] at this; omega, ?_⟩
    rw [← r.run, ord_drop hj]
    rw [runF_go, ← ho, hs]
    simp only
    rw [isEmpty_drop hj, ← hn, if_pos e1.symm]
    rfl
theorem RS.end' {fs : List (List UInt8)} {j : Nat} {F : Ent} {L : List Ent} (r : RS fs j F L) (hj : (ord fs).length ≤ j) : outF fs = (F, L, 0) := by
  have := r.run
  rw [List.drop_eq_nil_of_le hj] at this
  unfold outF
  rw [← this]
  rfl
theorem rscan_c {fs : List (List UInt8)} {g : G} {h : Heap} (hl : fs.length ≤ 10) (hb : ∀ b ∈ fs, b.length ≤ 1048576) :
    CallW Tryz.prog 13 [.sl 1 (fv fs) g] h fun r' h' => h.Sub h' ∧ ∃ gb g' n, r' = .tup [.agg [.int .u64 (outF fs).1.ix, .int .u64 (outF fs).1.tm, .sl 1 [] gb, .sl 3 (es (outF fs).2.1) g', .int .i64 n], .int .i64 (outF fs).2.2] ∧ ((outF fs).2.2 = 0 → n = ((ord fs).length : Int)) := by
  have hf : ∀ i, (fa fs i).length < 4294967200 := fun i => by have := fa_len hb i; omega
  refine c13 rfl ?_
  repeat' (first | ((with_reducible apply Nx.mk); conv => whnf) | with_reducible apply And.intro | exact trivial | fail)
  refine loopS (σ := Nat × G) (fun s => frm 101 [(0, .sl 1 (fv fs) g), (2, .lp 2 0), (4, .sl 1 (iw (sof fs s.1)) s.2), (5, .int .i64 s.1)]) (fun _ => [(2, [.int .u64 0, .int .u64 0, .sl 1 [] .full, .sl 3 [] .full, .int .i64 0])]) (fun s => fs.length - s.1)
    (fun s h' => s.1 ≤ fs.length ∧ h.Sub h') (0, .full) rfl ⟨by simp, Heap.sub_rfl _⟩ ?_
  rintro ⟨i, g4⟩ h1 ⟨k1, k2⟩
  simp only at k1 k2 ⊢
  repeat' (first | ((with_reducible apply Nx.mk); conv => whnf) | ((with_reducible apply RdV.i); (next => first | rfl | fail)) | ((with_reducible first | apply brS_i | apply spB_i) <;> intro c <;> (try exact absurd c (by decide)) <;> (try simp only [decide_eq_true_eq, decide_eq_false_iff_not, beq_iff_eq, bne_iff_ne, Bool.not_eq_true', Bool.not_eq_false', beq_eq_false_iff_ne, Bool.not_true, Bool.not_false, reduceCtorEq, ne_eq, bne_eq_false_iff_eq, Int.not_lt, Int.not_le, Decidable.not_not] at c) <;> (try (exfalso; omega))) | ((with_reducible apply RdE.i); (next => first | with_reducible rfl | fail); (next => first | with_reducible exact fv_at (by omega) | fail)) | ((with_reducible apply Nm.i); (next => first | with_reducible exact fv_len _ | with_reducible exact iw_len _ | fail)) | ((with_reducible apply Wr.i); (next => first | with_reducible exact wn_addl (by omega) | fail)) | ((with_reducible apply HN.i); (next => first | rfl | fail)) | refine CallS.gives n48 (rfirst_g _ _ (hf _)) ?_ | with_reducible apply And.intro | exact trivial | fail)
  · exact Js.Fin.mk ⟨(i + 1, g4), by simp only [sof_no (fs := fs) (i := i) c] <;> rfl, ⟨by simp only; omega, k2⟩, by simp only; omega⟩
  · have hok : fhOk (fa fs i) = true := c
    refine loopS (σ := Nat) (fun p => frm 101 [(0, .sl 1 (fv fs) g), (2, .lp 2 0), (4, .sl 1 (iw (sof fs i)) g4), (5, .int .i64 i), (6, .int .u64 (fhSer (fa fs i))), (8, .int .i64 p)]) (fun _ => [(2, [.int .u64 0, .int .u64 0, .sl 1 [] .full, .sl 3 [] .full, .int .i64 0])]) (fun p => p)
      (fun p h' => h' = h1 ∧ p ≤ (sof fs i).length ∧ ∀ y ∈ (sof fs i).drop p, fhSer (fa fs i) < fhSer (fa fs y)) (sof fs i).length rfl ⟨rfl, Nat.le_refl _, by simp⟩ ?_
    rintro p h2 ⟨rfl, j1, j2⟩
    (try simp only at j1 j2 ⊢)
    have jy : 1 ≤ p → (sof fs i).getD (p - 1) 0 < fs.length := fun hp => by
      have : (sof fs i).getD (p - 1) 0 ∈ sof fs i := by simp [show p - 1 < (sof fs i).length from by omega]
      have := sof_mem this
      omega
    have jl := sof_len (fs := fs) i
    repeat' (first | ((with_reducible apply Nx.mk); conv => whnf) | ((with_reducible apply RdV.i); (next => first | rfl | fail)) | ((with_reducible first | apply brS_i | apply spB_i) <;> intro c <;> (try exact absurd c (by decide)) <;> (try simp only [decide_eq_true_eq, decide_eq_false_iff_not, beq_iff_eq, bne_iff_ne, Bool.not_eq_true', Bool.not_eq_false', beq_eq_false_iff_ne, Bool.not_true, Bool.not_false, reduceCtorEq, ne_eq, bne_eq_false_iff_eq, Int.not_lt, Int.not_le, Decidable.not_not] at c) <;> (try (exfalso; omega))) | ((with_reducible apply RdE.i); (next => first | with_reducible rfl | fail); (next => first | with_reducible exact fv_at (by omega) | with_reducible exact iw_at (by omega) | fail)) | ((with_reducible apply Nm.i); (next => first | with_reducible exact iw_len _ | with_reducible exact iw_app _ _ | with_reducible exact iw_snoc _ _ | with_reducible exact List.length_nil | with_reducible exact List.nil_append _ | rfl | fail)) | ((with_reducible apply Wr.i); (next => first | with_reducible exact wn_addl (by omega) | with_reducible exact wn_subl (by omega) (by omega) | fail)) | ((with_reducible apply Part.i); (next => first | with_reducible exact cast_ofNat _ | with_reducible rfl | fail); (next => first | with_reducible rfl | fail); (next => omega); (next => first | omega | fail); (next => first | with_reducible exact iw_part _ _ _ | fail)) | ((with_reducible apply App.i); (next => (repeat (first | exact .full | exact can_gr0 (by with_reducible assumption) | exact can_len (by with_reducible assumption) | fail))); intro g' hg') | ((with_reducible apply HN.i); (next => first | rfl | fail)) | refine CallS.gives n48 (rfirst_g _ _ (hf _)) ?_ | with_reducible apply And.intro | exact trivial | fail)
    all_goals (try (unfold mostLen; simp only [List.length_drop, List.length_take, List.length_append, List.length_singleton]; omega))
    · have e := sof_yes hok j1 j2 (.inr (by omega))
      refine Js.Fin.mk ⟨(i + 1, g'), ?_, ⟨by simp only; omega, sub_three k2 (by assumption) (by assumption) (by assumption)⟩, by simp only; omega⟩
      simp only [e, List.take_length, List.drop_zero]; rfl
    · refine Js.Fin.mk ⟨p - 1, rfl, ⟨rfl, by omega, fun y hy => ?_⟩, by omega⟩
      have e : (sof fs i).drop (p - 1) = (sof fs i).getD (p - 1) 0 :: (sof fs i).drop p := by
        rw [List.drop_eq_getElem_cons (by omega), show p - 1 + 1 = p from by omega]; simp [show p - 1 < (sof fs i).length from by omega]
      rw [e] at hy
      rcases List.mem_cons.1 hy with rfl | hy
      · omega
      · exact j2 y hy
    · have e := sof_yes hok j1 j2 (.inl (by omega))
      refine Js.Fin.mk ⟨(i + 1, g'), ?_, ⟨by simp only; omega, sub_three k2 (by assumption) (by assumption) (by assumption)⟩, by simp only; omega⟩
      simp only [e, List.take_length, List.drop_zero]; rfl
  · obtain rfl : i = fs.length := by omega
    have he : sof fs fs.length = ord fs := rfl
    rw [he]
    have hol : (ord fs).length ≤ 10 := by have := sof_len (fs := fs) fs.length; rw [he] at this; omega
    refine loopS (σ := Nat × Ent × List Ent × G × G) (fun s => frm 101 [(0, .sl 1 (fv fs) g), (2, .lp 2 0), (4, .sl 1 (iw (ord fs)) g4), (12, .lp 12 0), (13, .int .i64 s.1)])
      (fun s => [(2, [.int .u64 0, .int .u64 0, .sl 1 [] .full, .sl 3 [] .full, .int .i64 0]), (12, [.int .u64 s.2.1.ix, .int .u64 s.2.1.tm, .sl 1 [] s.2.2.2.1, .sl 3 (es s.2.2.1) s.2.2.2.2, .int .i64 (ord fs).length])]) (fun s => (ord fs).length - s.1)
      (fun s h' => s.1 ≤ (ord fs).length ∧ h.Sub h' ∧ RS fs s.1 s.2.1 s.2.2.1) (0, ⟨0, 0, []⟩, [], .full, .full) rfl ⟨by simp, k2, ⟨rfl, by simp, by simp, rfl⟩⟩ ?_
    rintro ⟨j, F, L, gb, gl⟩ h2 ⟨j1, j2, rs⟩
    simp only at j1 j2 rs ⊢
    by_cases hj : j < (ord fs).length
    · obtain ⟨a1, a2⟩ := ord_at hj
      repeat' (first | ((with_reducible apply Nx.mk); conv => whnf) | ((with_reducible apply RdV.i); (next => first | rfl | fail)) | ((with_reducible first | apply brS_i | apply spB_i) <;> intro c <;> (try exact absurd c (by decide)) <;> (try simp only [decide_eq_true_eq, decide_eq_false_iff_not, beq_iff_eq, bne_iff_ne, Bool.not_eq_true', Bool.not_eq_false', beq_eq_false_iff_ne, Bool.not_true, Bool.not_false, reduceCtorEq, ne_eq, bne_eq_false_iff_eq, Int.not_lt, Int.not_le, Decidable.not_not] at c) <;> (try (exfalso; omega))) | ((with_reducible apply RdE.i); (next => first | with_reducible rfl | fail); (next => first | with_reducible exact fv_at (by omega) | with_reducible exact iw_at (by omega) | fail)) | ((with_reducible apply Nm.i); (next => first | with_reducible exact iw_len _ | fail)) | ((with_reducible apply Wr.i); (next => first | with_reducible exact wn_addl (by omega) | with_reducible exact wn_subl (by omega) (by omega) | fail)) | ((with_reducible apply Plan.i); (next => kernel_rfl); (next => kernel_rfl)) | (refine CallS.by' n49 (rfile_c (s := ⟨F, L, false, 0⟩) rfl rfl _ _ _ _ (rs.wf (by omega) hb _) (fhOk_k a2)) ?_; rintro r' h' ⟨gb', g', F', L', ok, hsb, rfl, hm⟩) | with_reducible apply And.intro | exact trivial | exact Nat.le_of_ble_eq_true rfl | fail)
      · have hk : ok = false := by cases ok with | false => rfl | true => exact (c rfl).elim
        have e := rs.no hj (by rw [Bool.eq_iff_iff]; simp) (by rw [Bool.eq_iff_iff]; simp; omega) hk hm
        rw [hk]
        rw [e]
        exact Js.Fin.mk ⟨fun x o e => hsb x o (j2 x o e), .full, .full, 0, rfl, by simp⟩
      · have hk : ok = true := by cases ok with | false => cases c | true => rfl
        have e := rs.yes hj (by omega) hb (by rw [Bool.eq_iff_iff]; simp) (by rw [Bool.eq_iff_iff]; simp; omega) hk hm
        exact Js.Fin.mk ⟨(j + 1, F', L', gb', g'), rfl, ⟨by simp only; omega, fun x o e => hsb x o (j2 x o e), e⟩, by simp only; omega⟩
    · repeat' (first | ((with_reducible apply Nx.mk); conv => whnf) | ((with_reducible first | apply brS_i | apply spB_i) <;> intro c <;> (try exact absurd c (by decide)) <;> (try simp only [decide_eq_true_eq, decide_eq_false_iff_not, beq_iff_eq, bne_iff_ne, Bool.not_eq_true', Bool.not_eq_false', beq_eq_false_iff_ne, Bool.not_true, Bool.not_false, reduceCtorEq, ne_eq, bne_eq_false_iff_eq, Int.not_lt, Int.not_le, Decidable.not_not] at c) <;> (try (exfalso; omega))) | ((with_reducible apply Nm.i); (next => first | with_reducible exact iw_len _ | fail)) | with_reducible apply And.intro | exact Nat.le_of_ble_eq_true rfl | fail)
      rw [rs.end' (by omega)]
      exact Js.Fin.mk ⟨j2, gb, gl, _, rfl, fun _ => rfl⟩
end J
end

section
/- What files have, as the program tells it. -/
namespace J
open Go Go.Proofs Jb Js
set_option maxRecDepth 100000
set_option maxHeartbeats 4000000


theorem c47 {args : List V} {h : Heap} {K : V → Heap → Prop} (hn : Nat.ble args.length Tryz.f47.ntmps = true) (e : Nx (bodyS Tryz.prog ⟨[2, 8], [(0, [], [3]), (2, [4, 5, 3, 21], []), (6, [], [3]), (7, [4, 5, 3, 21], [])], false⟩ Tryz.f47 args h K)) : CallW Tryz.prog 47 args h K := CallW.go mix _ Tryz.func47 (Nat.le_of_ble_eq_true hn) rfl e
theorem n47 : enters Tryz.prog 47 = true := by kernel_rfl
theorem iv_at' {l : List Nat} {R : List V} {i : Nat} (h : i < l.length) : (iv l ++ R)[0 + i * 1]? = some (.int .i64 (l.getD i 0 : Nat)) := iv_at (by simp [h])
theorem Lg.sub {h h' : Heap} {p : Nat} {F : Ent} {L : List Ent} {g : G} (l : Lg h p F L g) (s : h.Sub h') : Lg h' p F L g := ⟨s _ _ l.at', fun t e => s _ _ (l.slot t e), l.yes⟩
theorem Kp.sub {h h2 h' : Heap} {p : Nat} {g g' : G} (k : Kp p h g h2 g') (s : h2.Sub h') : Kp p h g h' g' := ⟨fun x o hx hg e => s _ _ (k.keep x o hx hg e), k.slot⟩
structure ScanP (h h' : Heap) (fs : List (List UInt8)) (gl : G) (bl n cap : Nat) : Prop where
  yes : gl ≠ .no
  slot : ∀ s, gl = .own s → h' s = some (.grow 3 (outF fs).2.1.length) ∧ h s = none
  nob : (outF fs).1.b = []
  ixs : ∀ i, i < (outF fs).2.1.length → (ea (outF fs).2.1 i).ix = (outF fs).1.ix + 1 + i
  ord : (outF fs).2.2 = 0 → n = (ord fs).length ∧ ((J.ord fs = [] ∧ bl = 0 ∧ cap = 0) ∨ ∃ R : List V, h' bl = some (.cells (iv (J.ord fs) ++ R)) ∧ h bl = none)
theorem scan_c {fs : List (List UInt8)} {g : G} {h : Heap} (h10 : fs.length ≤ 10) (hb : ∀ b ∈ fs, b.length ≤ 1048576) :
    CallW Tryz.prog 47 [.sl 1 (fv fs) g] h fun r' h' => h.Sub h' ∧ (outF fs).2.1.length ≤ 10485760 ∧ ∃ gl bl n cap, r' = .tup [.agg [.int .u64 (outF fs).1.ix, .int .u64 (outF fs).1.tm, .sl 1 [] .full, .sl 3 (es (outF fs).2.1) gl], .sref 1 bl 0 n cap, .int .i64 (outF fs).2.2] ∧ ScanP h h' fs gl bl n cap := by
  refine c47 rfl ?_
  repeat' (first | ((with_reducible apply Nx.mk); conv => whnf) | ((with_reducible apply New.i); intro l hl) | (refine CallS.by' n105 (order_c h10 hb) ?_; rintro r' h' ⟨hs, bl, cap, rfl, ho⟩) | fail)
  have hol : (ord fs).length ≤ 10 := by have := sof_len (fs := fs) fs.length; have he : sof fs fs.length = ord fs := rfl; rw [he] at this; omega
  have hl1 : Lg h' l ⟨0, 0, []⟩ [] .full := ⟨hs _ _ (hp_same _ _ _), by simp, by simp⟩
  have hs0 : h.Sub h' := fun x o e => hs x o (hp_new hl e)
  have hlp : h l = none := hl
  clear hs hl
  refine loopS (σ := Nat × Ent × List Ent) (fun s => frm 33 [(0, .sl 1 (fv fs) g), (2, .ptr l 0), (3, .sref 1 bl 0 (ord fs).length cap), (9, .sref 1 bl 0 (ord fs).length cap), (10, .int .i64 (ord fs).length), (11, .int .i64 s.1)]) (fun _ => []) (fun s => (ord fs).length - s.1)
    (fun s h2 => ∃ g2, s.1 ≤ (ord fs).length ∧ Lg h2 l s.2.1 s.2.2 g2 ∧ Kp l h' .full h2 g2 ∧ RS fs s.1 s.2.1 s.2.2) (0, ⟨0, 0, []⟩, []) rfl ⟨.full, by simp, hl1, Kp.rfl' _ _ _, ⟨rfl, by simp, by simp, rfl⟩⟩ ?_
  rintro ⟨j, F, L⟩ h2 ⟨g2, j1, lg, kp, rs⟩
  simp only at j1 lg kp rs ⊢
  by_cases hj : j < (ord fs).length
  · obtain ⟨a1, a2⟩ := ord_at hj
    rcases ho with ⟨hz, _, _⟩ | ⟨R, ho, hbn⟩
    · rw [hz] at hj; cases hj
    · have hbl : bl ≠ l := by rintro rfl; simp at hbn
      have hob : h2 bl = some (.cells (iv (ord fs) ++ R)) := kp.keep bl _ hbl (by simp) ho
      repeat' (first | ((with_reducible apply Nx.mk); conv => whnf) | ((with_reducible apply RdC.i); (next => ((repeat (first | with_reducible assumption | fail)); (first | done | fail))); (next => first | with_reducible exact iv_at' hj | fail)) | ((with_reducible apply RdV.i); (next => first | rfl | fail)) | ((with_reducible apply At.i); (next => first | with_reducible rfl | fail); (next => first | omega | fail)) | ((with_reducible apply RdH.i); (next => ((repeat (first | exact hp_same _ _ _ | exact Lg.at' (by with_reducible assumption) | fail)); (first | done | fail)))) | ((with_reducible first | apply brS_i | apply spB_i) <;> intro c <;> (try exact absurd c (by decide)) <;> (try simp only [decide_eq_true_eq, decide_eq_false_iff_not, beq_iff_eq, bne_iff_ne, Bool.not_eq_true', Bool.not_eq_false', beq_eq_false_iff_ne, Bool.not_true, Bool.not_false, reduceCtorEq, ne_eq, bne_eq_false_iff_eq, Int.not_lt, Int.not_le, Decidable.not_not] at c) <;> (try (exfalso; omega))) | ((with_reducible apply RdE.i); (next => first | with_reducible rfl | fail); (next => first | with_reducible exact fv_at (by omega) | fail)) | ((with_reducible apply Wr.i); (next => first | with_reducible exact wn_addl (by omega) | with_reducible exact wn_subl (by omega) (by omega) | fail)) | ((with_reducible apply Up.i); (next => first | rfl | fail)) | (refine CallS.by' n106 (read_c (s := ⟨F, L, false, 0⟩) lg rfl rfl _ _ _ _ (rs.wf (by omega) hb _)) ?_; rintro r' h3 ⟨g3, h4, F', L', ok, lg3, kp3, hs3, rfl, hm⟩; have lg5 := lg3.sub hs3; have kp5 := kp3.sub hs3) | with_reducible apply And.intro | exact trivial | exact Nat.le_of_ble_eq_true rfl | fail)
      · have hk : ok = false := c
        subst hk
        have e := rs.no hj (by rw [Bool.eq_iff_iff]; simp) (by rw [Bool.eq_iff_iff]; simp; omega) rfl hm
        rw [e]
        exact Js.Fin.mk ⟨fun x o q => hp_ne (by rintro rfl; rw [hlp] at q; cases q) ((Kp.trans kp lg.at' kp5).keep x o (by rintro rfl; rw [hlp] at q; cases q) (by simp) (hs0 x o q)), by simp, .full, 0, 0, 0, rfl, ⟨by simp, by simp, by rw [e], by rw [e]; simp, by rw [e]; simp⟩⟩
      · have hk : ok = true := c
        have e := rs.yes hj (by omega) hb (by rw [Bool.eq_iff_iff]; simp) (by rw [Bool.eq_iff_iff]; simp; omega) hk hm
        exact Js.Fin.mk ⟨(j + 1, F', L'), rfl, ⟨g3, by simp only; omega, lg5, Kp.trans kp lg.at' kp5, e⟩, by simp only; omega⟩
  · repeat' (first | ((with_reducible apply Nx.mk); conv => whnf) | ((with_reducible apply RdH.i); (next => ((repeat (first | exact hp_same _ _ _ | exact Lg.at' (by with_reducible assumption) | fail)); (first | done | fail)))) | ((with_reducible first | apply brS_i | apply spB_i) <;> intro c <;> (try exact absurd c (by decide)) <;> (try simp only [decide_eq_true_eq, decide_eq_false_iff_not, beq_iff_eq, bne_iff_ne, Bool.not_eq_true', Bool.not_eq_false', beq_eq_false_iff_ne, Bool.not_true, Bool.not_false, reduceCtorEq, ne_eq, bne_eq_false_iff_eq, Int.not_lt, Int.not_le, Decidable.not_not] at c) <;> (try (exfalso; omega))) | ((with_reducible apply Up.i); (next => first | rfl | fail)) | with_reducible apply And.intro | exact Nat.le_of_ble_eq_true rfl | fail)
    have e := rs.end' (by omega)
    rw [e]
    exact Js.Fin.mk ⟨fun x o q => hp_ne (by rintro rfl; rw [hlp] at q; cases q) (kp.keep x o (by rintro rfl; rw [hlp] at q; cases q) (by simp) (hs0 x o q)), by have := rs.len; simp only; omega, g2, bl, _, cap, rfl, ⟨lg.yes, fun s q => ⟨by
      have q2 := lg.slot s q
      rw [e]
      exact hp_ne (by rintro rfl; rw [lg.at'] at q2; cases q2) q2, by
      rcases kp.slot s q with q2 | q2
      · cases q2
      · cases q3 : h s with
        | none => rfl
        | some o => rw [hs0 s o q3] at q2; cases q2⟩, by rw [e]; exact rs.nob, by rw [e]; exact rs.ixs, fun _ => ⟨rfl, ho.imp_right fun ⟨R, q, hbn⟩ => ⟨R, by
      have hbl : bl ≠ l := by rintro rfl; simp at hbn
      exact hp_ne hbl (kp.keep bl _ hbl (by simp) q), none_of hbn⟩⟩⟩⟩

end J
end

section
/- The law's own functions. -/
namespace J
open Go Go.Proofs Jb Js
set_option maxRecDepth 100000
set_option maxHeartbeats 4000000
theorem c10 {args : List V} {h : Heap} {K : V → Heap → Prop} (hn : Nat.ble args.length Tryz.f10.ntmps = true) (e : Nx (bodyS Tryz.prog ⟨[], [(1, [2, 1, 1, 1, 3, 10], []), (6, [2, 1, 1, 1, 3, 10], [])], false⟩ Tryz.f10 args h K)) : CallW Tryz.prog 10 args h K := CallW.go mix _ Tryz.func10 (Nat.le_of_ble_eq_true hn) rfl e
theorem n10 : enters Tryz.prog 10 = true := by kernel_rfl
theorem c15 {args : List V} {h : Heap} {K : V → Heap → Prop} (hn : Nat.ble args.length Tryz.f15.ntmps = true) (e : Nx (bodyS Tryz.prog ⟨[], [(2, [0, 1, 1, 1, 2, 1, 3, 9], []), (6, [0, 1, 1, 1, 2, 1, 3, 9], [])], false⟩ Tryz.f15 args h K)) : CallW Tryz.prog 15 args h K := CallW.go mix _ Tryz.func15 (Nat.le_of_ble_eq_true hn) rfl e
theorem n15 : enters Tryz.prog 15 = true := by kernel_rfl
theorem c14 {args : List V} {h : Heap} {K : V → Heap → Prop} (hn : Nat.ble args.length Tryz.f14.ntmps = true) (e : Nx (bodyS Tryz.prog ⟨[], [(3, [4, 8, 2, 42], []), (8, [4, 8, 2, 42], [])], false⟩ Tryz.f14 args h K)) : CallW Tryz.prog 14 args h K := CallW.go mix _ Tryz.func14 (Nat.le_of_ble_eq_true hn) rfl e
theorem n14 : enters Tryz.prog 14 = true := by kernel_rfl
def lightF (fs : List (List UInt8)) : Bool := fs.all (fun b => decide (b.length ≤ 3000)) && decide (fs.length ≤ 10)
theorem fa_mem {fs : List (List UInt8)} {i : Nat} (h : i < fs.length) : fa fs i ∈ fs := by simp [fa, h]
theorem light_g {fs : List (List UInt8)} {g : G} {h : Heap} (h10 : fs.length ≤ 9223372036854775807) : Gives Tryz.prog 10 [.sl 1 (fv fs) g] h (.bool (lightF fs)) h := by
  refine c10 rfl ?_
  repeat' (first | ((with_reducible apply Nx.mk); conv => whnf) | ((with_reducible apply Nm.i); (next => first | with_reducible exact fv_len _ | fail)) | fail)
  refine loopS (σ := Nat) (fun i => frm 18 [(0, .sl 1 (fv fs) g), (5, .sl 1 (fv fs) g), (6, .int .i64 fs.length), (7, .int .i64 i)]) (fun _ => []) (fun i => fs.length - i)
    (fun i h' => h' = h ∧ i ≤ fs.length ∧ ∀ b ∈ fs.take i, b.length ≤ 3000) 0 rfl ⟨rfl, by simp, by simp⟩ ?_
  rintro i h1 ⟨rfl, k1, k2⟩
  (try simp only at k1 k2 ⊢)
  repeat' (first | ((with_reducible apply Nx.mk); conv => whnf) | ((with_reducible apply RdV.i); (next => first | rfl | fail)) | ((with_reducible first | apply brS_i | apply spB_i) <;> intro c <;> (try exact absurd c (by decide)) <;> (try simp only [decide_eq_true_eq, decide_eq_false_iff_not, beq_iff_eq, bne_iff_ne, Bool.not_eq_true', Bool.not_eq_false', beq_eq_false_iff_ne, Bool.not_true, Bool.not_false, reduceCtorEq, ne_eq, bne_eq_false_iff_eq, Int.not_lt, Int.not_le, Decidable.not_not] at c) <;> (try (exfalso; omega))) | ((with_reducible apply RdE.i); (next => first | with_reducible rfl | fail); (next => first | with_reducible exact fv_at (by omega) | fail)) | ((with_reducible apply Nm.i); (next => first | with_reducible exact fv_len _ | with_reducible exact bs_len _ | fail)) | ((with_reducible apply Wr.i); (next => first | with_reducible exact wn_addl (by omega) | fail)) | fail)
  · have e : lightF fs = false := by
      have hi : i < fs.length := by omega
      unfold lightF
      rw [Bool.and_eq_false_iff]
      refine .inl (Bool.eq_false_iff.2 fun q => ?_)
      have := List.all_eq_true.1 q _ (fa_mem hi)
      simp at this
      omega
    refine Js.Fin.mk ⟨?_, by (repeat (first | exact Heap.sub_rfl _ | fail))⟩
    rw [e]; exact .rfl _
  · refine Js.Fin.mk ⟨i + 1, rfl, ⟨rfl, by omega, fun b hb => ?_⟩, by omega⟩
    have hi : i < fs.length := by omega
    rw [List.take_succ_eq_append_getElem hi] at hb
    rcases List.mem_append.1 hb with hb | hb
    · exact k2 b hb
    · simp at hb; subst hb
      have : fa fs i = fs[i] := by simp [fa, hi]
      rw [← this]; omega
  · refine Js.Fin.mk ⟨?_, by (repeat (first | exact Heap.sub_rfl _ | fail))⟩
    have e : lightF fs = decide ((fs.length : Int) ≤ 10) := by
      rw [List.take_of_length_le (by omega)] at k2
      unfold lightF
      rw [show fs.all (fun b => decide (b.length ≤ 3000)) = true from List.all_eq_true.2 fun b hb => decide_eq_true (k2 b hb), Bool.true_and]
      exact decide_eq_decide.2 (by omega)
    rw [e]; exact .rfl _
theorem es_snoc' {L : List Ent} {i : Nat} (h : i < L.length) : es (L.take i) ++ [[.int .u64 (ea L i).ix, .int .u64 (ea L i).tm, .sl 1 (bs (ea L i).b) .no]] = es (L.take (i + 1)) := by
  rw [List.take_succ_eq_append_getElem h, ← es_app]; congr 1; simp [es, er, ea, h]
theorem plain_g {L : List Ent} {g : G} {h : Heap} (hl : L.length < 4294967200) : Gives Tryz.prog 15 [.sl 3 (es L) g] h (.sl 3 (es L) .no) h := by
  refine c15 rfl ?_
  repeat' (first | ((with_reducible apply Nx.mk); conv => whnf) | ((with_reducible apply Nm.i); (next => first | with_reducible exact es_len _ | fail)) | fail)
  refine loopS (σ := Nat × G) (fun s => frm 18 [(3, .sl 3 (es (L.take s.1)) s.2), (6, .sl 3 (es L) g), (7, .int .i64 L.length), (8, .int .i64 s.1)]) (fun _ => []) (fun s => L.length - s.1)
    (fun s h' => s.1 ≤ L.length ∧ h.Sub h' ∧ Can s.2 3 (L.take s.1).length h' ∧ ∀ t, s.2 = .own t → h t = none) (0, .full) rfl ⟨by simp, Heap.sub_rfl _, .inl rfl, by simp⟩ ?_
  rintro ⟨i, g3⟩ h1 ⟨k1, k2, k3, k4⟩
  simp only at k1 k2 k3 k4 ⊢
  by_cases hi : i < L.length
  · have hti : (L.take i).length = i := by simp; omega
    have hg : g3 ≠ .no := by rcases k3 with rfl | ⟨s, rfl, _⟩ <;> simp
    repeat' (first | ((with_reducible apply Nx.mk); conv => whnf) | ((with_reducible first | apply brS_i | apply spB_i) <;> intro c <;> (try exact absurd c (by decide)) <;> (try simp only [decide_eq_true_eq, decide_eq_false_iff_not, beq_iff_eq, bne_iff_ne, Bool.not_eq_true', Bool.not_eq_false', beq_eq_false_iff_ne, Bool.not_true, Bool.not_false, reduceCtorEq, ne_eq, bne_eq_false_iff_eq, Int.not_lt, Int.not_le, Decidable.not_not] at c) <;> (try (exfalso; omega))) | ((with_reducible apply RdE.i); (next => first | with_reducible rfl | fail); (next => first | with_reducible exact es_at (by omega) | fail)) | ((with_reducible apply Nm.i); (next => first | with_reducible exact es_len _ | with_reducible exact es_snoc' hi | rfl | fail)) | ((with_reducible apply Wr.i); (next => first | with_reducible exact wn_addl (by omega) | fail)) | ((with_reducible apply App.i); (next => (repeat (first | with_reducible assumption | fail))); intro g' hg') | with_reducible apply And.intro | exact trivial | exact Nat.le_of_ble_eq_true rfl | exact rfl | fail)
    · unfold mostLen; simp only [List.length_singleton]; omega
    · have e : (L.take i).length + [[V.int .u64 (ea L i).ix, V.int .u64 (ea L i).tm, V.sl 1 (bs (ea L i).b) .no]].length = (L.take (i + 1)).length := by simp; omega
      rw [e]
      exact Js.Fin.mk ⟨(i + 1, g'), rfl, ⟨by simp only; omega, sub_gr hg' (own_step k2 k4 hg hg') k2, can_gr hg', own_step k2 k4 hg hg'⟩, by simp only; omega⟩
  · rw [List.take_of_length_le (by omega)]
    repeat' (first | ((with_reducible apply Nx.mk); conv => whnf) | ((with_reducible first | apply brS_i | apply spB_i) <;> intro c <;> (try exact absurd c (by decide)) <;> (try simp only [decide_eq_true_eq, decide_eq_false_iff_not, beq_iff_eq, bne_iff_ne, Bool.not_eq_true', Bool.not_eq_false', beq_eq_false_iff_ne, Bool.not_true, Bool.not_false, reduceCtorEq, ne_eq, bne_eq_false_iff_eq, Int.not_lt, Int.not_le, Decidable.not_not] at c) <;> (try (exfalso; omega))) | fail)
    exact Js.Fin.mk ⟨.sl _ _ _, k2⟩
theorem same_g {L : List Ent} {g g2 : G} {h : Heap} (hl : L.length < 4294967200) : Gives Tryz.prog 14 [.sl 3 (es L) g, .sl 3 (es L) g2] h (.bool true) h := by
  refine c14 rfl ?_
  repeat' (first | ((with_reducible apply Nx.mk); conv => whnf) | ((with_reducible first | apply brS_i | apply spB_i) <;> intro c <;> (try exact absurd c (by decide)) <;> (try simp only [decide_eq_true_eq, decide_eq_false_iff_not, beq_iff_eq, bne_iff_ne, Bool.not_eq_true', Bool.not_eq_false', beq_eq_false_iff_ne, Bool.not_true, Bool.not_false, reduceCtorEq, ne_eq, bne_eq_false_iff_eq, Int.not_lt, Int.not_le, Decidable.not_not] at c) <;> (try (exfalso; omega))) | ((with_reducible apply Nm.i); (next => first | with_reducible exact es_len _ | fail)) | fail)
  · exact absurd trivial (by assumption)
  refine loopS (σ := Nat) (fun i => frm 56 [(0, .sl 3 (es L) g), (1, .sl 3 (es L) g2), (12, .int .i64 L.length), (13, .int .i64 i)]) (fun _ => []) (fun i => L.length - i)
    (fun i h' => h' = h ∧ i ≤ L.length) 0 rfl ⟨rfl, by simp⟩ ?_
  rintro i h1 ⟨rfl, k1⟩
  (try simp only at k1 ⊢)
  repeat' (first | ((with_reducible apply Nx.mk); conv => whnf) | ((with_reducible apply RdV.i); (next => first | rfl | fail)) | ((with_reducible first | apply brS_i | apply spB_i) <;> intro c <;> (try exact absurd c (by decide)) <;> (try simp only [decide_eq_true_eq, decide_eq_false_iff_not, beq_iff_eq, bne_iff_ne, Bool.not_eq_true', Bool.not_eq_false', beq_eq_false_iff_ne, Bool.not_true, Bool.not_false, reduceCtorEq, ne_eq, bne_eq_false_iff_eq, Int.not_lt, Int.not_le, Decidable.not_not] at c) <;> (try (exfalso; omega))) | ((with_reducible apply RdE.i); (next => first | with_reducible rfl | fail); (next => first | with_reducible exact es_at (by omega) | fail)) | ((with_reducible apply Wr.i); (next => first | with_reducible exact wn_addl (by omega) | fail)) | ((with_reducible apply ToS.i); (next => exact bs_byte _); (next => exact bs_tx _)) | ((with_reducible apply Plan.i); (next => kernel_rfl); (next => kernel_rfl)) | with_reducible intro _ | fail)
  all_goals first
    | exact absurd trivial (by assumption)
    | exact Js.Fin.mk ⟨i + 1, rfl, ⟨rfl, by omega⟩, by omega⟩
    | exact Js.Fin.mk ⟨.rfl _, by (repeat (first | exact Heap.sub_rfl _ | fail))⟩
end J
end
