/- Proved here: of JS8, that what the Go functions of this part compute is as their contracts say (texts Jj, Jn, Jo, Jp), for every input; no condition beyond those that each theorem states. -/
import Derived.Test.YtoimhhmlkbdodaaGreatJS7
set_option linter.all false
section
/- A file, as the document reads it. -/
namespace J
open Go Go.Proofs Jb Js
set_option maxRecDepth 100000
set_option maxHeartbeats 4000000



theorem c69 {args : List V} {h : Heap} {K : V → Heap → Prop} (hn : Nat.ble args.length Tryz.f69.ntmps = true) (e : Nx (bodyS Tryz.prog ⟨[], [], false⟩ Tryz.f69 args h K)) : CallW Tryz.prog 69 args h K := CallW.go mix _ Tryz.func69 (Nat.le_of_ble_eq_true hn) rfl e
theorem n69 : enters Tryz.prog 69 = true := by kernel_rfl
theorem i69 {args : List V} {h : Heap} {K : V → Heap → Prop} (hn : Nat.ble args.length Tryz.f69.ntmps = true) (e : Nx (bodyS Tryz.prog ⟨[], [], false⟩ Tryz.f69 args h K)) : CallS Tryz.prog 69 args h K := ⟨AnyW.call n69 (c69 hn e)⟩
theorem c109 {args : List V} {h : Heap} {K : V → Heap → Prop} (hn : Nat.ble args.length Tryz.f109.ntmps = true) (e : Nx (bodyS Tryz.prog ⟨[], [(4, [0, 2, 3, 1, 1, 53], []), (6, [0, 2, 3, 1, 1, 53], [])], false⟩ Tryz.f109 args h K)) : CallW Tryz.prog 109 args h K := CallW.go mix _ Tryz.func109 (Nat.le_of_ble_eq_true hn) rfl e
theorem n109 : enters Tryz.prog 109 = true := by kernel_rfl
theorem i109 {args : List V} {h : Heap} {K : V → Heap → Prop} (hn : Nat.ble args.length Tryz.f109.ntmps = true) (e : Nx (bodyS Tryz.prog ⟨[], [(4, [0, 2, 3, 1, 1, 53], []), (6, [0, 2, 3, 1, 1, 53], [])], false⟩ Tryz.f109 args h K)) : CallS Tryz.prog 109 args h K := ⟨AnyW.call n109 (c109 hn e)⟩
theorem c49 {args : List V} {h : Heap} {K : V → Heap → Prop} (hn : Nat.ble args.length Tryz.f49.ntmps = true) (e : Nx (bodyS Tryz.prog ⟨[50], [(2, [0, 1, 8, 1, 2, 156], []), (12, [0, 2, 2, 1, 5, 158], []), (21, [0, 1, 8, 1, 2, 156], []), (25, [0, 1, 8, 1, 2, 156], []), (34, [0, 1, 8, 1, 2, 156], []), (39, [0, 1, 8, 1, 2, 156], [])], false⟩ Tryz.f49 args h K)) : CallW Tryz.prog 49 args h K := CallW.go mix _ Tryz.func49 (Nat.le_of_ble_eq_true hn) rfl e
theorem n49 : enters Tryz.prog 49 = true := by kernel_rfl
theorem i49 {args : List V} {h : Heap} {K : V → Heap → Prop} (hn : Nat.ble args.length Tryz.f49.ntmps = true) (e : Nx (bodyS Tryz.prog ⟨[50], [(2, [0, 1, 8, 1, 2, 156], []), (12, [0, 2, 2, 1, 5, 158], []), (21, [0, 1, 8, 1, 2, 156], []), (25, [0, 1, 8, 1, 2, 156], []), (34, [0, 1, 8, 1, 2, 156], []), (39, [0, 1, 8, 1, 2, 156], [])], false⟩ Tryz.f49 args h K)) : CallS Tryz.prog 49 args h K := ⟨AnyW.call n49 (c49 hn e)⟩
theorem can_gr0 {h : Heap} {es n n' : Nat} {g g' : G} (hg : GNew es n h g g') : Can g' es n' (gr h g' es (0 + n')) := by rw [Nat.zero_add]; exact can_gr hg
theorem sub_two {h0 h : Heap} {es n m k : Nat} {g g' : G} (s : h0.Sub h) (a : GNew es 0 h .full g) (c : GNew es n (gr h g es k) g g') : h0.Sub (gr (gr h g es k) g' es m) := by
  refine sub_gr c (fun t e => ?_) (sub_gr0 a s)
  have hn : h t = none → h0 t = none := fun q => by
    cases ht : h0 t with
    | none => rfl
    | some o => rw [s t o ht] at q; cases q
  cases g with
  | full => exact hn (c.new rfl t e)
  | own u =>
    have := c.own u rfl
    rw [this] at e; cases e
    exact hn (a.new rfl _ rfl)
  | no => exact (a.yes rfl).elim
theorem rlast_g {F : Ent} {L : List Ent} {gb g : G} {n : Nat} (hF : F.b = []) (hl : L.length < 4294967296) {h : Heap} :
    Gives Tryz.prog 69 [.agg [.int .u64 F.ix, .int .u64 F.tm, .sl 1 [] gb, .sl 3 (es L) g, .int .i64 n]] h (.agg [.int .u64 (lastE F L).ix, .int .u64 (lastE F L).tm, .sl 1 (bs (lastE F L).b) .no]) h := by
  refine c69 rfl ?_
  repeat' (first | ((with_reducible apply Nx.mk); conv => whnf) | ((with_reducible apply RdV.i); (next => first | rfl | fail)) | ((with_reducible first | apply brS_i | apply spB_i) <;> intro c <;> (try exact absurd c (by decide)) <;> (try simp only [decide_eq_true_eq, decide_eq_false_iff_not, beq_iff_eq, bne_iff_ne, Bool.not_eq_true', Bool.not_eq_false', beq_eq_false_iff_ne, Bool.not_true, Bool.not_false, reduceCtorEq, ne_eq, bne_eq_false_iff_eq, Int.not_lt, Int.not_le, Decidable.not_not] at c) <;> (try (exfalso; omega))) | ((with_reducible apply RdE.i); (next => first | with_reducible rfl | fail); (next => first | with_reducible exact es_at (by omega) | fail)) | ((with_reducible apply Nm.i); (next => first | with_reducible exact es_len _ | fail)) | ((with_reducible apply Wr.i); (next => first | with_reducible exact wn_subl (by omega) (by omega) | fail)) | with_reducible apply And.intro | exact trivial | exact Nat.le_of_ble_eq_true rfl | exact rfl | fail)
  · refine Js.Fin.mk ⟨?_, by (repeat (first | exact Heap.sub_rfl _ | fail))⟩
    unfold lastE
    rw [if_pos (by omega), hF]
    exact .aggL (.cons (.rfl _) (.cons (.rfl _) (.cons (.sl _ _ _) .nil)))
  · refine Js.Fin.mk ⟨?_, by (repeat (first | exact Heap.sub_rfl _ | fail))⟩
    unfold lastE
    rw [if_neg (by omega)]
    exact .rfl _
theorem fI_eq {L : List Ent} {a b i : Nat} (hi : i < L.length) (h1 : (ea L i).ix = a) (h2 : (ea L i).tm = b) (k2 : ∀ k, k < i → ¬ ((ea L k).ix = a ∧ (ea L k).tm = b)) : fI L a b = i := by
  unfold fI
  rw [List.findIdx_eq hi]
  refine ⟨by rw [← ea_get hi]; simp [h1, h2], fun k hk => ?_⟩
  have := k2 k hk
  rw [ea_get (by omega)] at this
  simpa using this
theorem fI_none {L : List Ent} {a b : Nat} (k2 : ∀ k, k < L.length → ¬ ((ea L k).ix = a ∧ (ea L k).tm = b)) : ¬ fI L a b < L.length := fun q => by
  unfold fI at q
  have := List.findIdx_getElem (w := q)
  have h3 := k2 _ q
  rw [ea_get q] at h3
  simp at this
  exact h3 this
theorem rto_g {F : Ent} {L : List Ent} {gb g gx : G} {n a b : Nat} (hl : L.length < 4294967200) {h : Heap} :
    Gives Tryz.prog 109 [.agg [.int .u64 F.ix, .int .u64 F.tm, .sl 1 [] gb, .sl 3 (es L) g, .int .i64 n], .agg [.int .u64 a, .int .u64 b, .sl 1 [] gx]] h
      (.tup [.agg [.int .u64 F.ix, .int .u64 F.tm, .sl 1 [] .no, .sl 3 (es (toL F L a b)) .no, .int .i64 n], .bool (toOk F L a b)]) h := by
  refine c109 rfl ?_
  repeat' (first | ((with_reducible apply Nx.mk); conv => whnf) | ((with_reducible apply RdV.i); (next => first | rfl | fail)) | ((with_reducible first | apply brS_i | apply spB_i) <;> intro c <;> (try exact absurd c (by decide)) <;> (try simp only [decide_eq_true_eq, decide_eq_false_iff_not, beq_iff_eq, bne_iff_ne, Bool.not_eq_true', Bool.not_eq_false', beq_eq_false_iff_ne, Bool.not_true, Bool.not_false, reduceCtorEq, ne_eq, bne_eq_false_iff_eq, Int.not_lt, Int.not_le, Decidable.not_not] at c) <;> (try (exfalso; omega))) | with_reducible apply And.intro | exact trivial | with_reducible intro _ | exact Nat.le_of_ble_eq_true rfl | exact rfl | fail)
  · refine Js.Fin.mk ⟨?_, by (repeat (first | exact Heap.sub_rfl _ | fail))⟩
    rw [show toOk F L a b = true from decide_eq_true (.inl ⟨by omega, by omega⟩), show toL F L a b = [] from if_pos ⟨by omega, by omega⟩]
    exact .tupL (.cons (.aggL (.cons (.rfl _) (.cons (.rfl _) (.cons (.sl _ _ _) (.cons (.sl _ _ _) (.cons (.rfl _) .nil)))))) (.cons (.rfl _) .nil))
  all_goals have hN : ¬ (a = F.ix ∧ b = F.tm) := by omega
  all_goals (
    refine loopS (σ := Nat) (fun i => frm 60 [(2, .lp 2 0), (3, .lp 3 0), (4, .lp 4 0), (6, .int .i64 i)]) (fun _ => [(2, [.int .u64 F.ix, .int .u64 F.tm, .sl 1 [] gb, .sl 3 (es L) g, .int .i64 n]), (3, [.int .u64 a, .int .u64 b, .sl 1 [] gx]), (4, [.int .u64 0, .int .u64 0, .sl 1 [] .full, .sl 3 [] .full, .int .i64 0])]) (fun i => L.length - i)
      (fun i h' => h' = h ∧ i ≤ L.length ∧ ∀ k, k < i → ¬ ((ea L k).ix = a ∧ (ea L k).tm = b)) 0 rfl ⟨rfl, by simp, by simp⟩ ?_
    rintro i h ⟨rfl, k1, k2⟩
    simp only at k1 k2 ⊢
    repeat' (first | ((with_reducible apply Nx.mk); conv => whnf) | ((with_reducible apply RdV.i); (next => first | rfl | fail)) | ((with_reducible first | apply brS_i | apply spB_i) <;> intro c <;> (try exact absurd c (by decide)) <;> (try simp only [decide_eq_true_eq, decide_eq_false_iff_not, beq_iff_eq, bne_iff_ne, Bool.not_eq_true', Bool.not_eq_false', beq_eq_false_iff_ne, Bool.not_true, Bool.not_false, reduceCtorEq, ne_eq, bne_eq_false_iff_eq, Int.not_lt, Int.not_le, Decidable.not_not] at c) <;> (try (exfalso; omega))) | ((with_reducible apply RdE.i); (next => first | with_reducible rfl | fail); (next => first | with_reducible exact es_at (by omega) | fail)) | ((with_reducible apply Nm.i); (next => first | with_reducible exact es_len _ | with_reducible exact List.length_nil | with_reducible exact List.nil_append _ | fail)) | ((with_reducible apply Wr.i); (next => first | with_reducible exact wn_addl (by omega) | fail)) | ((with_reducible apply Part.i); (next => first | with_reducible exact cast_ofNat _ | fail); (next => first | with_reducible rfl | fail); (next => omega); (next => first | omega | fail); (next => first | with_reducible exact es_part _ _ _ | fail)) | ((with_reducible apply App.i); (next => (repeat (first | exact .full | fail))); intro g' hg') | ((with_reducible apply Plan.i); (next => kernel_rfl); (next => kernel_rfl)) | with_reducible apply And.intro | exact trivial | with_reducible intro _ | exact Nat.le_of_ble_eq_true rfl | fail))
  all_goals first
    | (unfold mostLen; simp only [List.length_drop, List.length_take]; omega)
    | (refine Js.Fin.mk ⟨i + 1, rfl, ⟨rfl, by omega, fun k hk => ?_⟩, by omega⟩
       by_cases e : k = i
       · subst e; omega
       · exact k2 k (by omega))
    | (have hi : i < L.length := by omega
       have e := fI_eq hi (by omega) (by omega) k2
       refine Js.Fin.mk ⟨?_, by (repeat (first | exact Heap.sub_rfl _ | refine sub_gr0 (by with_reducible assumption) ?_ | fail))⟩
       rw [show toOk F L a b = true from decide_eq_true (.inr (by omega)), show toL F L a b = L.take (i + 1) from by unfold toL; rw [if_neg hN, if_pos (by omega), e]]
       exact .tupL (.cons (.aggL (.cons (.rfl _) (.cons (.rfl _) (.cons (.sl _ _ _) (.cons (.sl _ _ _) (.cons (.rfl _) .nil)))))) (.cons (.rfl _) .nil)))
    | (have e := fI_none (fun k hk => k2 k (by omega))
       refine Js.Fin.mk ⟨?_, by (repeat (first | exact Heap.sub_rfl _ | fail))⟩
       rw [show toOk F L a b = false from decide_eq_false (by omega), show toL F L a b = L from by unfold toL; rw [if_neg hN, if_neg e]]
       exact .tupL (.cons (.aggL (.cons (.rfl _) (.cons (.rfl _) (.cons (.sl _ _ _) (.cons (.sl _ _ _) (.cons (.rfl _) .nil)))))) (.cons (.rfl _) .nil)))
theorem endC_alt (b : List UInt8) : endC b = if (restP b).length = 0 then 0 else tkE (restP b) := by
  obtain ⟨h1, h2⟩ := rest_at' b
  have h3 : (restP b).length = b.length - endAt b := by rw [h2, List.length_drop]
  unfold endC
  by_cases e : endAt b = b.length
  · rw [if_pos e, if_pos (by omega)]
  · rw [if_neg e, if_neg (by omega)]
theorem endC_go {b : List UInt8} (h : tkE b = 0) : endC (b.drop (tkN b)) = endC b := by rw [endC_alt, endC_alt, restP_ok h]
theorem endC_end {b : List UInt8} (h : tkE b ≠ 0) : endC b = if b.length = 0 then 0 else tkE b := by rw [endC_alt, restP_end h]
theorem exit_leaf {h h1 : Heap} {s s1 : FS} {b b1 : List UInt8} {old new : Bool} {gb1 gl1 : G} {n : Nat} {k : Int} (hsub : h.Sub h1) (e1 : steps old s1 b1 = steps old s b) (e2 : endC b1 = endC b) (e0 : tkE b1 ≠ 0) (hk : k = if ((if b1.length = 0 then 0 else tkE b1) == 0 || ((if b1.length = 0 then 0 else tkE b1) == 31 && new)) = true then 0 else 20) :
    ∃ (gb' g' : G) (F' : Ent) (L' : List Ent) (ok : Bool),
      h.Sub h1 ∧ V.tup [.agg [.int .u64 s1.F.ix, .int .u64 s1.F.tm, .sl 1 [] gb1, .sl 3 (es s1.L) gl1, .int .i64 n], .int .i64 k] = V.tup [.agg [.int .u64 F'.ix, .int .u64 F'.tm, .sl 1 [] gb', .sl 3 (es L') g', .int .i64 n], .int .i64 (if ok = true then 0 else 20)] ∧ (match steps old s b with | some t => ok = (endC b == 0 || (endC b == 31 && new)) ∧ F' = t.F ∧ L' = t.L | none => ok = false) := by
  have hss : steps old s b = some s1 := by rw [← e1, steps_end e0]
  have hc : endC b = if b1.length = 0 then 0 else tkE b1 := by rw [← e2, endC_end e0]
  refine ⟨gb1, gl1, s1.F, s1.L, (endC b == 0 || (endC b == 31 && new)), hsub, ?_, ?_⟩
  · rw [hk, hc]
  · rw [hss]; exact ⟨rfl, rfl, rfl⟩
theorem ex_1 (b1 : List UInt8) (new : Bool) (c : (tkE b1 : Int) = 31) (l : 0 < (b1.length : Int)) (c2 : new = true) : (0 : Int) = if ((if b1.length = 0 then 0 else tkE b1) == 0 || ((if b1.length = 0 then 0 else tkE b1) == 31 && new)) = true then 0 else 20 := by
  rw [if_neg (show ¬ b1.length = 0 by omega), show tkE b1 = 31 by omega, c2]; rfl
theorem ex_2 (b1 : List UInt8) (new : Bool) (c : (tkE b1 : Int) = 31) (l : 0 < (b1.length : Int)) (c2 : new = false) : (20 : Int) = if ((if b1.length = 0 then 0 else tkE b1) == 0 || ((if b1.length = 0 then 0 else tkE b1) == 31 && new)) = true then 0 else 20 := by
  rw [if_neg (show ¬ b1.length = 0 by omega), show tkE b1 = 31 by omega, c2]; rfl
theorem ex_0 (b1 : List UInt8) (new : Bool) (l : (b1.length : Int) ≤ 0) : (0 : Int) = if ((if b1.length = 0 then 0 else tkE b1) == 0 || ((if b1.length = 0 then 0 else tkE b1) == 31 && new)) = true then 0 else 20 := by
  rw [if_pos (show b1.length = 0 by omega)]; rfl
theorem ex_3 (b1 : List UInt8) (new : Bool) (c : ¬ (tkE b1 : Int) = 31) (c2 : ¬ (tkE b1 : Int) = 0) (l : 0 < (b1.length : Int)) : (20 : Int) = if ((if b1.length = 0 then 0 else tkE b1) == 0 || ((if b1.length = 0 then 0 else tkE b1) == 31 && new)) = true then 0 else 20 := by
  rw [if_neg (show ¬ b1.length = 0 by omega), show (tkE b1 == 0) = false from beq_eq_false_iff_ne.2 (by omega), show (tkE b1 == 31) = false from beq_eq_false_iff_ne.2 (by omega)]; rfl
theorem tkE_nil {b : List UInt8} (h : b.length = 0) : tkE b = 31 := by
  have : b = [] := List.length_eq_zero_iff.1 h
  subst this; rfl
theorem ok_0 {E : Nat} (new : Bool) (h : E = 0) : (E == 0 || (E == 31 && new)) = true := by subst h; rfl
theorem ok_1 {E : Nat} {new : Bool} (h : E = 31) (hn : new = true) : (E == 0 || (E == 31 && new)) = true := by subst h; subst hn; rfl
theorem ok_2 {E : Nat} {new : Bool} (h : E = 31) (hn : new = false) : (E == 0 || (E == 31 && new)) = false := by subst h; subst hn; rfl
theorem ok_3 {E : Nat} (new : Bool) (h : E ≠ 0) (h2 : E ≠ 31) : (E == 0 || (E == 31 && new)) = false := by simp [h, h2]
theorem step_1a {old : Bool} {s : FS} {k : Nat} {b : List UInt8} (hk : k = 1) (h1 : hdOk k b = true) (h2 : s.begun = false) (h3 : (old || hdNew b) = true) :
    step1 old s k b = some ⟨⟨hdIx b, hdTm b, []⟩, [], true, hdIx b⟩ := by rw [step_1 hk h1 h2 (by rw [h3]; rfl), if_pos h3, if_pos h3]
theorem step_1b {old : Bool} {s : FS} {k : Nat} {b : List UInt8} (hk : k = 1) (h1 : hdOk k b = true) (h2 : s.begun = false) (h3 : (old || hdNew b) = false) (h4 : toOk s.F s.L (hdIx b) (hdTm b) = true) :
    step1 old s k b = some ⟨s.F, toL s.F s.L (hdIx b) (hdTm b), true, hdIx b⟩ := by rw [step_1 hk h1 h2 (by rw [h3, h4]; rfl), if_neg (by rw [h3]; decide), if_neg (by rw [h3]; decide)]
theorem toOk_le {s : FS} {c : List UInt8} {m a b : Nat} (w : Wf s c m) (h : toOk s.F s.L a b = true) : s.F.ix ≤ a := by
  rcases of_decide_eq_true h with h | h
  · omega
  · have q := h
    unfold fI at q
    have h1 := List.findIdx_getElem (w := q)
    have h2 := w.ixs _ q
    rw [ea_get q] at h2
    simp at h1
    omega
theorem rfile_c {h : Heap} {s : FS} {gb g : G} {n : Nat} (hs : s.begun = false) (ho : s.own = 0) (b : List UInt8) (g0 : G) (old new : Bool) (w : Wf s b 4294967100) (hf : tkK b = 1) :
    CallW Tryz.prog 49 [.agg [.int .u64 s.F.ix, .int .u64 s.F.tm, .sl 1 [] gb, .sl 3 (es s.L) g, .int .i64 n], .sl 1 (bs b) g0, .bool old, .bool new] h fun r' h' => ∃ (gb' g' : G) (F' : Ent) (L' : List Ent) (ok : Bool),
      h.Sub h' ∧ r' = .tup [.agg [.int .u64 F'.ix, .int .u64 F'.tm, .sl 1 [] gb', .sl 3 (es L') g', .int .i64 n], .int .i64 (if ok then 0 else 20)] ∧ (match steps old s b with | some t => ok = (endC b == 0 || (endC b == 31 && new)) ∧ F' = t.F ∧ L' = t.L | none => ok = false) := by
  refine c49 rfl ?_
  repeat' (first | ((with_reducible apply Nx.mk); conv => whnf) | with_reducible apply And.intro | exact trivial | exact rfl | fail)
  refine loopS (σ := FS × List UInt8 × G × G × G) (fun x => frm 168 [(1, .sl 1 (bs x.2.1) x.2.2.1), (2, .bool old), (3, .bool new), (4, .lp 4 0), (8, .lp 8 0), (10, .bool x.1.begun), (11, .int .u64 x.1.own)])
    (fun x => [(4, [.int .u64 x.1.F.ix, .int .u64 x.1.F.tm, .sl 1 [] x.2.2.2.1, .sl 3 (es x.1.L) x.2.2.2.2, .int .i64 n]), (8, [.int .u64 0, .int .u64 0, .sl 1 [] .full, .sl 3 [] .full, .int .i64 0])]) (fun x => x.2.1.length)
    (fun x h' => h.Sub h' ∧ Wf x.1 x.2.1 4294967100 ∧ steps old x.1 x.2.1 = steps old s b ∧ endC x.2.1 = endC b ∧ (tkK x.2.1 ≠ 1 → x.1.F.ix ≤ x.1.own)) (s, b, g0, gb, g) (by rw [hs, ho]; rfl) ⟨Heap.sub_rfl _, w, rfl, rfl, fun q => (q hf).elim⟩ ?_
  rintro ⟨s1, b1, g1, gb1, gl1⟩ h1 ⟨hsub, w1, e1, e2, e3⟩
  simp only at w1 e1 e2 e3 ⊢
  have q := tkN_le b1
  have q1 := tkB_len b1
  have w2 := w1.len
  have w3 := w1.own
  have x1 := ad1_len (tkB b1)
  have x2 := ad2_len (tkB b1)
  have x3 := natV_le 4611686018427387904 (tkB b1)
  have x4 := natV_le 18446744073709551615 (tkB b1)
  have x5 := w1.last
  repeat' (first | ((with_reducible apply Nx.mk); conv => whnf) | ((with_reducible apply RdV.i); (next => first | rfl | fail)) | ((with_reducible first | apply brS_i | apply spB_i) <;> intro c <;> (try exact absurd c (by decide)) <;> (try simp only [decide_eq_true_eq, decide_eq_false_iff_not, beq_iff_eq, bne_iff_ne, Bool.not_eq_true', Bool.not_eq_false', beq_eq_false_iff_ne, Bool.not_true, Bool.not_false, reduceCtorEq, ne_eq, bne_eq_false_iff_eq, Int.not_lt, Int.not_le, Decidable.not_not] at c) <;> (try (exfalso; omega))) | ((with_reducible apply Nm.i); (next => first | with_reducible exact bs_len _ | with_reducible exact tx_bs _ | with_reducible exact es_len _ | with_reducible exact es_snoc _ _ _ _ | with_reducible exact List.length_nil | with_reducible exact List.nil_append _ | rfl | fail)) | ((with_reducible apply Wr.i); (next => first | with_reducible exact wu_subl (by omega) (by omega) | with_reducible exact wu_sub (by omega) (by omega) | fail)) | ((with_reducible apply Part.i); (next => first | with_reducible exact cast_ofNat _ | with_reducible rfl | fail); (next => first | with_reducible rfl | fail); (next => omega); (next => first | omega | fail); (next => first | with_reducible exact bs_to _ _ | with_reducible exact es_part _ _ _ | fail)) | ((with_reducible apply New.i); intro l hl) | ((with_reducible apply App.i); (next => (repeat (first | exact .full | exact can_gr0 (by with_reducible assumption) | fail))); intro g' hg') | ((with_reducible apply HN.i); (next => first | exact upd_upd _ _ _ _ | rfl | fail)) | ((with_reducible apply Plan.i); (next => kernel_rfl); (next => kernel_rfl)) | refine (fV_i ?_) | refine CallS.gives n107 (rtake_g _ _ (by omega)) ?_ | refine CallS.gives n108 (rhead_g _ _ _ (by omega)) ?_ | refine CallS.gives n109 (rto_g (by omega)) ?_ | refine CallS.gives n110 (rnat_g _ _ _ (most := 4611686018427387904) (by ((repeat (first | exact hp_same _ _ _ | fail)); (first | done | fail))) (by omega) (by omega)) ?_ | refine CallS.gives n110 (rnat_g _ _ _ (most := 18446744073709551615) (by ((repeat (first | exact hp_same _ _ _ | fail)); (first | done | fail))) (by omega) (by omega)) ?_ | refine CallS.gives n111 (rtext_g _ _ _ (most := 512) (by ((repeat (first | exact hp_same _ _ _ | fail)); (first | done | fail))) (by omega) (by omega)) ?_ | refine CallS.gives n112 (rend_g _ _ _ (by ((repeat (first | exact hp_same _ _ _ | fail)); (first | done | fail)))) ?_ | refine CallS.gives n69 (rlast_g w1.nob (by omega)) ?_ | with_reducible apply And.intro | exact trivial | exact EqV.mk rfl | with_reducible intro _ | exact Nat.le_of_ble_eq_true rfl | exact rfl | fail)
  all_goals try (
    have z := tkE_nil (b := b1)
    refine Js.Fin.mk (exit_leaf hsub e1 e2 (by omega) ?_)
    first
    | exact ex_0 b1 new (by omega)
    | exact ex_1 b1 new (by omega) (by omega) (by assumption)
    | exact ex_2 b1 new (by omega) (by omega) (by assumption)
    | exact ex_3 b1 new (by omega) (by omega) (by omega))
  all_goals have e0 : tkE b1 = 0 := by omega
  all_goals have q2 := tk_len e0
  all_goals try (
    have hst : step1 old s1 (tkK b1) (tkB b1) = none := by
      first
      | exact step_no1 (by omega) (.inl (by assumption))
      | exact step_no1 (by omega) (.inr (.inl (by assumption)))
      | exact step_no1 (by omega) (.inr (.inr (by rw [show old = false from by assumption, show hdNew (tkB b1) = false from by assumption, show toOk s1.F s1.L (hdIx (tkB b1)) (hdTm (tkB b1)) = false from by assumption]; rfl)))
      | (refine step_no2 (by omega) ?_
         rw [Bool.eq_false_iff]
         intro q
         unfold adOk adE adEnt ad2 ad1 at q
         simp only [Bool.and_eq_true, beq_iff_eq, bne_iff_ne, decide_eq_true_eq, ne_eq] at q
         omega)
      | (refine step_no3 (by omega) ?_
         rw [Bool.eq_false_iff]
         intro q
         unfold ctOk ctE ctFrom at q
         simp only [Bool.and_eq_true, beq_iff_eq, bne_iff_ne, decide_eq_true_eq, ne_eq] at q
         omega)
      | exact step_no (by omega) (by omega) (by omega)
    have hss : steps old s b = none := by rw [← e1, steps_go e0, hst]
    exact Js.Fin.mk ⟨_, _, s1.F, s1.L, false, fun x o e => (by (repeat (first | exact Heap.sub_rfl _ | refine sub_new (by (repeat (first | with_reducible assumption | fail))) ?_ | fail)) : Heap.Sub h1 _) x o (hsub x o e), rfl, by rw [hss]⟩)
  all_goals first
    | (have hst := step_1a (old := old) (s := s1) (k := tkK b1) (b := tkB b1) (by omega) (by assumption) (by assumption) (by rw [show old = true from by assumption]; rfl)
       exact Js.Fin.mk ⟨(⟨⟨hdIx (tkB b1), hdTm (tkB b1), []⟩, [], true, hdIx (tkB b1)⟩, b1.drop (tkN b1), _, _, _), rfl, ⟨fun x o e => (by (repeat (first | exact Heap.sub_rfl _ | refine sub_new (by (repeat (first | with_reducible assumption | fail))) ?_ | fail)) : Heap.Sub h1 _) x o (hsub x o e), w1.step e0 hst, by rw [← e1, steps_go e0, hst], by rw [← e2, endC_go e0], fun _ => Nat.le_refl _⟩, by simp only [List.length_drop]; omega⟩)
    | (have hst := step_1a (old := old) (s := s1) (k := tkK b1) (b := tkB b1) (by omega) (by assumption) (by assumption) (by rw [show hdNew (tkB b1) = true from by assumption]; exact Bool.or_true _)
       exact Js.Fin.mk ⟨(⟨⟨hdIx (tkB b1), hdTm (tkB b1), []⟩, [], true, hdIx (tkB b1)⟩, b1.drop (tkN b1), _, _, _), rfl, ⟨fun x o e => (by (repeat (first | exact Heap.sub_rfl _ | refine sub_new (by (repeat (first | with_reducible assumption | fail))) ?_ | fail)) : Heap.Sub h1 _) x o (hsub x o e), w1.step e0 hst, by rw [← e1, steps_go e0, hst], by rw [← e2, endC_go e0], fun _ => Nat.le_refl _⟩, by simp only [List.length_drop]; omega⟩)
    | (have hst := step_1b (old := old) (s := s1) (k := tkK b1) (b := tkB b1) (by omega) (by assumption) (by assumption) (by rw [show old = false from by assumption, show hdNew (tkB b1) = false from by assumption]; rfl) (by assumption)
       exact Js.Fin.mk ⟨(⟨s1.F, toL s1.F s1.L (hdIx (tkB b1)) (hdTm (tkB b1)), true, hdIx (tkB b1)⟩, b1.drop (tkN b1), _, _, _), rfl, ⟨fun x o e => (by (repeat (fail)) : Heap.Sub h1 _) x o (hsub x o e), w1.step e0 hst, by rw [← e1, steps_go e0, hst], by rw [← e2, endC_go e0], fun _ => toOk_le w1 (by assumption)⟩, by simp only [List.length_drop]; omega⟩)
    | (have hk : adOk s1.F s1.L (tkB b1) = true := by
         unfold adOk adE adEnt ad2 ad1
         simp only [Bool.and_eq_true, beq_iff_eq, bne_iff_ne, decide_eq_true_eq, ne_eq]
         omega
       have hst := step_2 (old := old) (s := s1) (k := tkK b1) (b := tkB b1) (by omega) hk
       rw [show adL s1.F s1.L (tkB b1) = s1.L ++ [adEnt (tkB b1)] from if_pos hk] at hst
       exact Js.Fin.mk ⟨(⟨s1.F, s1.L ++ [adEnt (tkB b1)], s1.begun, s1.own⟩, b1.drop (tkN b1), _, _, _), rfl, ⟨fun x o e => (by (repeat (first | exact Heap.sub_rfl _ | refine sub_two ?_ (by with_reducible assumption) (by with_reducible assumption) | refine sub_new (by (repeat (first | with_reducible assumption | fail))) ?_ | fail)) : Heap.Sub h1 _) x o (hsub x o e), w1.step e0 hst, by rw [← e1, steps_go e0, hst], by rw [← e2, endC_go e0], fun _ => e3 (by omega)⟩, by simp only [List.length_drop]; omega⟩)
    | (have hk : ctOk s1.F s1.L s1.own (tkB b1) = true := by
         unfold ctOk ctE ctFrom
         simp only [Bool.and_eq_true, beq_iff_eq, bne_iff_ne, decide_eq_true_eq, ne_eq]
         omega
       have hst := step_3 (old := old) (s := s1) (k := tkK b1) (b := tkB b1) (by omega) hk
       rw [show ctL s1.F s1.L s1.own (tkB b1) = s1.L.take (ctFrom (tkB b1) - 1 - s1.F.ix) from if_pos hk] at hst
       exact Js.Fin.mk ⟨(⟨s1.F, s1.L.take (ctFrom (tkB b1) - 1 - s1.F.ix), s1.begun, s1.own⟩, b1.drop (tkN b1), _, _, _), rfl, ⟨fun x o e => (by (repeat (first | exact Heap.sub_rfl _ | refine sub_gr0 (by with_reducible assumption) ?_ | refine sub_new (by (repeat (first | with_reducible assumption | fail))) ?_ | fail)) : Heap.Sub h1 _) x o (hsub x o e), w1.step e0 hst, by rw [← e1, steps_go e0, hst], by rw [← e2, endC_go e0], fun _ => e3 (by omega)⟩, by simp only [List.length_drop]; omega⟩)
    | (unfold mostLen; (try simp only [List.length_drop, List.length_take, List.length_append, List.length_singleton, List.length_cons, List.length_nil]); omega)
    | (have hst := step_1b (old := old) (s := s1) (k := tkK b1) (b := tkB b1) (by omega) (by assumption) (by assumption) (by rw [show old = false from by assumption, show hdNew (tkB b1) = false from by assumption]; rfl) (by assumption)
       have hle := toOk_le (a := hdIx (tkB b1)) (b := hdTm (tkB b1)) w1 (by assumption)
       refine Js.Fin.mk ⟨(⟨s1.F, toL s1.F s1.L (hdIx (tkB b1)) (hdTm (tkB b1)), true, hdIx (tkB b1)⟩, b1.drop (tkN b1), .no, .no, .no), ?_, ⟨fun x o e => (by (repeat (first | exact Heap.sub_rfl _ | refine sub_new (by (repeat (first | with_reducible assumption | fail))) ?_ | fail)) : Heap.Sub h1 _) x o (hsub x o e), w1.step e0 hst, by rw [← e1, steps_go e0, hst], by rw [← e2, endC_go e0], fun _ => hle⟩, by simp only [List.length_drop]; omega⟩
       rfl)
end J
end

section
/- What files have, as the document tells it. -/
namespace J
open Go Go.Proofs Jb Js
set_option maxRecDepth 100000
set_option maxHeartbeats 4000000


theorem c13 {args : List V} {h : Heap} {K : V → Heap → Prop} (hn : Nat.ble args.length Tryz.f13.ntmps = true) (e : Nx (bodyS Tryz.prog ⟨[], [(2, [3, 1, 2, 95], []), (4, [3, 1, 2, 95], []), (7, [3, 1, 3, 1, 1, 92], []), (11, [3, 1, 3, 1, 1, 92], []), (17, [3, 1, 1, 7, 2, 87], []), (19, [3, 1, 1, 7, 2, 87], [])], false⟩ Tryz.f13 args h K)) : CallW Tryz.prog 13 args h K := CallW.go mix _ Tryz.func13 (Nat.le_of_ble_eq_true hn) rfl e
theorem n13 : enters Tryz.prog 13 = true := by kernel_rfl
theorem i13 {args : List V} {h : Heap} {K : V → Heap → Prop} (hn : Nat.ble args.length Tryz.f13.ntmps = true) (e : Nx (bodyS Tryz.prog ⟨[], [(2, [3, 1, 2, 95], []), (4, [3, 1, 2, 95], []), (7, [3, 1, 3, 1, 1, 92], []), (11, [3, 1, 3, 1, 1, 92], []), (17, [3, 1, 1, 7, 2, 87], []), (19, [3, 1, 1, 7, 2, 87], [])], false⟩ Tryz.f13 args h K)) : CallS Tryz.prog 13 args h K := ⟨AnyW.call n13 (c13 hn e)⟩
theorem can_len {h : Heap} {g g' : G} {es n : Nat} {α : Type} {l : List Nat} {x : Nat} {y : α} (hg : GNew es n h g g') : Can g' es (l ++ [x]).length (gr h g' es (l.length + [y].length)) := by
  rw [List.length_append]; exact can_gr hg
def iw (l : List Nat) : List (List V) := l.map fun (x : Nat) => [V.int .i64 (x : Int)]
theorem iw_len (l : List Nat) : (iw l).length = l.length := by simp [iw]
theorem iw_at {l : List Nat} {i : Nat} (h : i < l.length) : (iw l)[i]? = some [.int .i64 (l.getD i 0)] := by simp [iw, h]
theorem iw_part (l : List Nat) (i j : Nat) : ((iw l).take j).drop i = iw ((l.take j).drop i) := by simp [iw, List.map_drop, List.map_take]
theorem iw_to (l : List Nat) (i : Nat) : ((iw l).take l.length).drop i = iw (l.drop i) := by rw [← iw_len l, List.take_length]; simp [iw, List.map_drop]
theorem iw_app (l m : List Nat) : iw l ++ iw m = iw (l ++ m) := by simp [iw]
theorem iw_snoc (l : List Nat) (x : Nat) : iw l ++ [[.int .i64 (x : Int)]] = iw (l ++ [x]) := by simp [iw]
theorem own_step {h0 H : Heap} {es n : Nat} {g g' : G} (s : h0.Sub H) (o : ∀ t, g = .own t → h0 t = none) (y : g ≠ .no) (c : GNew es n H g g') : ∀ t, g' = .own t → h0 t = none := fun t e => by
  cases g with
  | full =>
    cases hb : h0 t with
    | none => rfl
    | some v => have := c.new rfl t e; rw [s t v hb] at this; cases this
  | own u =>
    have := c.own u rfl
    rw [this] at e; cases e
    exact o _ rfl
  | no => exact (y rfl).elim
theorem sub_three {h0 h : Heap} {es n1 n2 m1 m2 m3 : Nat} {g1 g2 g3 : G} (s : h0.Sub h) (a : GNew es 0 h .full g1) (b : GNew es n1 (gr h g1 es m1) g1 g2) (c : GNew es n2 (gr (gr h g1 es m1) g2 es m2) g2 g3) : h0.Sub (gr (gr (gr h g1 es m1) g2 es m2) g3 es m3) := by
  have o1 := own_step s (by simp) (by simp) a
  have s1 : h0.Sub (gr h g1 es m1) := sub_gr a o1 s
  have o2 := own_step s1 o1 a.yes b
  have s2 : h0.Sub (gr (gr h g1 es m1) g2 es m2) := sub_gr b o2 s1
  exact sub_gr c (own_step s2 o2 b.yes c) s2
theorem insR_skip (key : Nat → Nat) (x : Nat) : ∀ (C D : List Nat), (∀ y ∈ C, key x < key y) → insR key x (C ++ D) = C ++ insR key x D
  | [], _, _ => rfl
  | y :: r, D, h => by
    simp only [List.cons_append, insR, if_pos (h y (by simp))]
    rw [insR_skip key x r D fun z hz => h z (by simp [hz])]
theorem insR_at (key : Nat → Nat) (x : Nat) (l : List Nat) (p : Nat) (hp : p ≤ l.length) (h1 : ∀ y ∈ l.drop p, key x < key y) (h2 : p = 0 ∨ ¬ key x < key (l.getD (p - 1) 0)) :
    (insR key x l.reverse).reverse = l.take p ++ [x] ++ l.drop p := by
  have e : l.reverse = (l.drop p).reverse ++ (l.take p).reverse := by rw [← List.reverse_append, List.take_append_drop]
  rw [e, insR_skip key x _ _ (by simpa using h1)]
  have e2 : insR key x (l.take p).reverse = x :: (l.take p).reverse := by
    rcases h2 with rfl | h2
    · rfl
    · cases p with
      | zero => rfl
      | succ p =>
        have e3 : l.take (p + 1) = l.take p ++ [l.getD p 0] := by
          rw [List.take_succ_eq_append_getElem (by omega)]; simp [show p < l.length from by omega]
        rw [e3, List.reverse_append]
        simp only [List.reverse_singleton, List.singleton_append, insR]
        rw [if_neg (by simpa using h2)]
  rw [e2]
  simp
theorem fa_len {fs : List (List UInt8)} (hb : ∀ b ∈ fs, b.length ≤ 3000) (i : Nat) : (fa fs i).length ≤ 3000 := by
  unfold fa; rw [List.getD_eq_getElem?_getD]
  cases he : fs[i]? with
  | none => simp
  | some b => have := hb b (List.mem_of_getElem? he); simp; omega
def runF (fs : List (List UInt8)) : Bool → Ent → List Ent → List Nat → Option (Ent × List Ent)
  | _, F, L, [] => some (F, L)
  | old, F, L, x :: r => match steps old ⟨F, L, false, 0⟩ (fa fs x) with
    | none => none
    | some t => if (endC (fa fs x) == 0 || (endC (fa fs x) == 31 && r.isEmpty)) = true then runF fs false t.F t.L r else none
theorem runF_go (fs : List (List UInt8)) (old : Bool) (F : Ent) (L : List Ent) (x : Nat) (r : List Nat) : runF fs old F L (x :: r) = match steps old ⟨F, L, false, 0⟩ (fa fs x) with
    | none => none
    | some t => if (endC (fa fs x) == 0 || (endC (fa fs x) == 31 && r.isEmpty)) = true then runF fs false t.F t.L r else none := rfl
def outF (fs : List (List UInt8)) : Ent × List Ent × Nat := match runF fs true ⟨0, 0, []⟩ [] (ord fs) with
  | some (F, L) => (F, L, 0)
  | none => (⟨0, 0, []⟩, [], 20)
def sof (fs : List (List UInt8)) (i : Nat) : List Nat := sortI (fk fs) (ordL fs i)
theorem sof_mem {fs : List (List UInt8)} {i x : Nat} (h : x ∈ sof fs i) : x < i := ordL_lt ((sort_mem (fk fs) x _ (ordL fs i) rfl).1 h)
theorem sof_len {fs : List (List UInt8)} (i : Nat) : (sof fs i).length ≤ i := by unfold sof; rw [sort_len _ _ _ rfl]; exact ordL_len fs i
theorem sof_no {fs : List (List UInt8)} {i : Nat} (h : fhOk (fa fs i) = false) : sof fs (i + 1) = sof fs i := by unfold sof; rw [ordL_no h]
theorem sof_yes {fs : List (List UInt8)} {i p : Nat} (h : fhOk (fa fs i) = true) (hp : p ≤ (sof fs i).length) (h1 : ∀ y ∈ (sof fs i).drop p, fhSer (fa fs i) < fhSer (fa fs y)) (h2 : p = 0 ∨ ¬ fhSer (fa fs i) < fhSer (fa fs ((sof fs i).getD (p - 1) 0))) :
    sof fs (i + 1) = (sof fs i).take p ++ [i] ++ (sof fs i).drop p := by
  rw [← insR_at (fk fs) i (sof fs i) p hp h1 h2]
  unfold sof
  rw [ordL_yes h, sort_snoc]
theorem Wf.steps {old : Bool} : ∀ (n : Nat) (s t : FS) (b : List UInt8) (m : Nat), b.length ≤ n → Wf s b m → J.steps old s b = some t → Wf t [] m
  | n, s, t, b, m, hn, w, e => by
    by_cases h : tkE b = 0
    · have q := tk_len h
      rw [steps_go h] at e
      cases h1 : step1 old s (tkK b) (tkB b) with
      | none => rw [h1] at e; cases e
      | some s1 =>
        rw [h1] at e
        cases n with
        | zero => omega
        | succ n => exact Wf.steps n s1 t _ m (by simp only [List.length_drop]; omega) (w.step h h1) e
    · rw [steps_end h] at e; cases e
      exact ⟨w.nob, w.ixs, by have := w.len; simp only [List.length_nil]; omega, w.own⟩
structure RS (fs : List (List UInt8)) (j : Nat) (F : Ent) (L : List Ent) : Prop where
  nob : F.b = []
  ixs : ∀ i, i < L.length → (ea L i).ix = F.ix + 1 + i
  len : L.length ≤ 3000 * j
  run : runF fs (j == 0) F L ((ord fs).drop j) = runF fs true ⟨0, 0, []⟩ [] (ord fs)
theorem RS.wf {fs : List (List UInt8)} {j : Nat} {F : Ent} {L : List Ent} (r : RS fs j F L) (hj : j < 10) (hb : ∀ b ∈ fs, b.length ≤ 3000) (x : Nat) : Wf ⟨F, L, false, 0⟩ (fa fs x) 4294967100 := by
  have := r.len; have := fa_len hb x
  exact ⟨r.nob, r.ixs, by simp only; omega, by simp⟩
theorem ord_drop {fs : List (List UInt8)} {j : Nat} (h : j < (ord fs).length) : (ord fs).drop j = (ord fs).getD j 0 :: (ord fs).drop (j + 1) := by
  rw [List.drop_eq_getElem_cons h]; simp [h]
theorem ord_at {fs : List (List UInt8)} {j : Nat} (h : j < (ord fs).length) : (ord fs).getD j 0 < fs.length ∧ fhOk (fa fs ((ord fs).getD j 0)) = true := by
  refine ord_mem (fs := fs) (x := (ord fs).getD j 0) ?_
  simp [h]
theorem fhOk_k {b : List UInt8} (h : fhOk b = true) : tkK b = 1 := by
  unfold fhOk hdOk at h
  simp at h
  exact h.2.1
theorem isEmpty_drop {l : List Nat} {j : Nat} (h : j < l.length) : (l.drop (j + 1)).isEmpty = decide (j = l.length - 1) := by
  rw [Bool.eq_iff_iff]; simp; omega
theorem RS.no {fs : List (List UInt8)} {j : Nat} {F F' : Ent} {L L' : List Ent} {old new ok : Bool} (r : RS fs j F L) (hj : j < (ord fs).length) (ho : old = (j == 0)) (hn : new = decide (j = (ord fs).length - 1)) (hok : ok = false)
    (e : match steps old ⟨F, L, false, 0⟩ (fa fs ((ord fs).getD j 0)) with | some t => ok = (endC (fa fs ((ord fs).getD j 0)) == 0 || (endC (fa fs ((ord fs).getD j 0)) == 31 && new)) ∧ F' = t.F ∧ L' = t.L | none => ok = false) : outF fs = (⟨0, 0, []⟩, [], 20) := by
  subst hok
  have := r.run
  rw [ord_drop hj, runF_go, ← ho] at this
  unfold outF
  rw [← this]
  cases hs : steps old ⟨F, L, false, 0⟩ (fa fs ((ord fs).getD j 0)) with
  | none => rfl
  | some t =>
    rw [hs] at e
    simp only at e
    rw [isEmpty_drop hj, ← hn, ← e.1]
    rfl
theorem RS.yes {fs : List (List UInt8)} {j : Nat} {F F' : Ent} {L L' : List Ent} {old new ok : Bool} (r : RS fs j F L) (hj : j < (ord fs).length) (h10 : j < 10) (hb : ∀ b ∈ fs, b.length ≤ 3000) (ho : old = (j == 0)) (hn : new = decide (j = (ord fs).length - 1)) (hok : ok = true)
    (e : match steps old ⟨F, L, false, 0⟩ (fa fs ((ord fs).getD j 0)) with | some t => ok = (endC (fa fs ((ord fs).getD j 0)) == 0 || (endC (fa fs ((ord fs).getD j 0)) == 31 && new)) ∧ F' = t.F ∧ L' = t.L | none => ok = false) : RS fs (j + 1) F' L' := by
  subst hok
  cases hs : steps old ⟨F, L, false, 0⟩ (fa fs ((ord fs).getD j 0)) with
  | none => rw [hs] at e; cases e
  | some t =>
    rw [hs] at e
    obtain ⟨e1, rfl, rfl⟩ := e
    have w0 := r.wf h10 hb ((ord fs).getD j 0)
    have l1 := fa_len hb ((ord fs).getD j 0)
    have l2 := r.len
    have w1 : Wf ⟨F, L, false, 0⟩ (fa fs ((ord fs).getD j 0)) (3000 * (j + 1)) := ⟨w0.nob, w0.ixs, by simp only; omega, w0.own⟩
    have w := Wf.steps _ _ _ _ _ (Nat.le_refl _) w1 hs
    refine ⟨w.nob, w.ixs, by have := w.len; simp only [List.length_nil] at this; omega, ?_⟩
    rw [← r.run, ord_drop hj]
    rw [runF_go, ← ho, hs]
    simp only
    rw [isEmpty_drop hj, ← hn, if_pos e1.symm]
    rfl
theorem RS.end' {fs : List (List UInt8)} {j : Nat} {F : Ent} {L : List Ent} (r : RS fs j F L) (hj : (ord fs).length ≤ j) : outF fs = (F, L, 0) := by
  have := r.run
  rw [List.drop_eq_nil_of_le hj] at this
  unfold outF
  rw [← this]
  rfl
theorem rscan_c {fs : List (List UInt8)} {g : G} {h : Heap} (hl : fs.length ≤ 10) (hb : ∀ b ∈ fs, b.length ≤ 3000) :
    CallW Tryz.prog 13 [.sl 1 (fv fs) g] h fun r' h' => h.Sub h' ∧ ∃ gb g' n, r' = .tup [.agg [.int .u64 (outF fs).1.ix, .int .u64 (outF fs).1.tm, .sl 1 [] gb, .sl 3 (es (outF fs).2.1) g', .int .i64 n], .int .i64 (outF fs).2.2] := by
  have hf : ∀ i, (fa fs i).length < 4294967200 := fun i => by have := fa_len hb i; omega
  refine c13 rfl ?_
  repeat' (first | ((with_reducible apply Nx.mk); conv => whnf) | with_reducible apply And.intro | exact trivial | fail)
  refine loopS (σ := Nat × G) (fun s => frm 101 [(0, .sl 1 (fv fs) g), (2, .lp 2 0), (4, .sl 1 (iw (sof fs s.1)) s.2), (5, .int .i64 s.1)]) (fun _ => [(2, [.int .u64 0, .int .u64 0, .sl 1 [] .full, .sl 3 [] .full, .int .i64 0])]) (fun s => fs.length - s.1)
    (fun s h' => s.1 ≤ fs.length ∧ h.Sub h') (0, .full) rfl ⟨by simp, Heap.sub_rfl _⟩ ?_
  rintro ⟨i, g4⟩ h1 ⟨k1, k2⟩
  simp only at k1 k2 ⊢
  repeat' (first | ((with_reducible apply Nx.mk); conv => whnf) | ((with_reducible apply RdV.i); (next => first | rfl | fail)) | ((with_reducible first | apply brS_i | apply spB_i) <;> intro c <;> (try exact absurd c (by decide)) <;> (try simp only [decide_eq_true_eq, decide_eq_false_iff_not, beq_iff_eq, bne_iff_ne, Bool.not_eq_true', Bool.not_eq_false', beq_eq_false_iff_ne, Bool.not_true, Bool.not_false, reduceCtorEq, ne_eq, bne_eq_false_iff_eq, Int.not_lt, Int.not_le, Decidable.not_not] at c) <;> (try (exfalso; omega))) | ((with_reducible apply RdE.i); (next => first | with_reducible rfl | fail); (next => first | with_reducible exact fv_at (by omega) | fail)) | ((with_reducible apply Nm.i); (next => first | with_reducible exact fv_len _ | with_reducible exact iw_len _ | fail)) | ((with_reducible apply Wr.i); (next => first | with_reducible exact wn_addl (by omega) | fail)) | ((with_reducible apply HN.i); (next => first | rfl | fail)) | refine CallS.gives n48 (rfirst_g _ _ (hf _)) ?_ | with_reducible apply And.intro | exact trivial | fail)
  · exact Js.Fin.mk ⟨(i + 1, g4), by simp only [sof_no (fs := fs) (i := i) c] <;> rfl, ⟨by simp only; omega, k2⟩, by simp only; omega⟩
  · have hok : fhOk (fa fs i) = true := c
    refine loopS (σ := Nat) (fun p => frm 101 [(0, .sl 1 (fv fs) g), (2, .lp 2 0), (4, .sl 1 (iw (sof fs i)) g4), (5, .int .i64 i), (6, .int .u64 (fhSer (fa fs i))), (8, .int .i64 p)]) (fun _ => [(2, [.int .u64 0, .int .u64 0, .sl 1 [] .full, .sl 3 [] .full, .int .i64 0])]) (fun p => p)
      (fun p h' => h' = h1 ∧ p ≤ (sof fs i).length ∧ ∀ y ∈ (sof fs i).drop p, fhSer (fa fs i) < fhSer (fa fs y)) (sof fs i).length rfl ⟨rfl, Nat.le_refl _, by simp⟩ ?_
    rintro p h2 ⟨rfl, j1, j2⟩
    (try simp only at j1 j2 ⊢)
    have jy : 1 ≤ p → (sof fs i).getD (p - 1) 0 < fs.length := fun hp => by
      have : (sof fs i).getD (p - 1) 0 ∈ sof fs i := by simp [show p - 1 < (sof fs i).length from by omega]
      have := sof_mem this
      omega
    have jl := sof_len (fs := fs) i
    repeat' (first | ((with_reducible apply Nx.mk); conv => whnf) | ((with_reducible apply RdV.i); (next => first | rfl | fail)) | ((with_reducible first | apply brS_i | apply spB_i) <;> intro c <;> (try exact absurd c (by decide)) <;> (try simp only [decide_eq_true_eq, decide_eq_false_iff_not, beq_iff_eq, bne_iff_ne, Bool.not_eq_true', Bool.not_eq_false', beq_eq_false_iff_ne, Bool.not_true, Bool.not_false, reduceCtorEq, ne_eq, bne_eq_false_iff_eq, Int.not_lt, Int.not_le, Decidable.not_not] at c) <;> (try (exfalso; omega))) | ((with_reducible apply RdE.i); (next => first | with_reducible rfl | fail); (next => first | with_reducible exact fv_at (by omega) | with_reducible exact iw_at (by omega) | fail)) | ((with_reducible apply Nm.i); (next => first | with_reducible exact iw_len _ | with_reducible exact iw_app _ _ | with_reducible exact iw_snoc _ _ | with_reducible exact List.length_nil | with_reducible exact List.nil_append _ | rfl | fail)) | ((with_reducible apply Wr.i); (next => first | with_reducible exact wn_addl (by omega) | with_reducible exact wn_subl (by omega) (by omega) | fail)) | ((with_reducible apply Part.i); (next => first | with_reducible exact cast_ofNat _ | with_reducible rfl | fail); (next => first | with_reducible rfl | fail); (next => omega); (next => first | omega | fail); (next => first | with_reducible exact iw_part _ _ _ | fail)) | ((with_reducible apply App.i); (next => (repeat (first | exact .full | exact can_gr0 (by with_reducible assumption) | exact can_len (by with_reducible assumption) | fail))); intro g' hg') | ((with_reducible apply HN.i); (next => first | rfl | fail)) | refine CallS.gives n48 (rfirst_g _ _ (hf _)) ?_ | with_reducible apply And.intro | exact trivial | fail)
    all_goals (try (unfold mostLen; simp only [List.length_drop, List.length_take, List.length_append, List.length_singleton]; omega))
    · have e := sof_yes hok j1 j2 (.inr (by omega))
      refine Js.Fin.mk ⟨(i + 1, g'), ?_, ⟨by simp only; omega, sub_three k2 (by assumption) (by assumption) (by assumption)⟩, by simp only; omega⟩
      simp only [e, List.take_length, List.drop_zero]; rfl
    · refine Js.Fin.mk ⟨p - 1, rfl, ⟨rfl, by omega, fun y hy => ?_⟩, by omega⟩
      have e : (sof fs i).drop (p - 1) = (sof fs i).getD (p - 1) 0 :: (sof fs i).drop p := by
        rw [List.drop_eq_getElem_cons (by omega), show p - 1 + 1 = p from by omega]; simp [show p - 1 < (sof fs i).length from by omega]
      rw [e] at hy
      rcases List.mem_cons.1 hy with rfl | hy
      · omega
      · exact j2 y hy
    · have e := sof_yes hok j1 j2 (.inl (by omega))
      refine Js.Fin.mk ⟨(i + 1, g'), ?_, ⟨by simp only; omega, sub_three k2 (by assumption) (by assumption) (by assumption)⟩, by simp only; omega⟩
      simp only [e, List.take_length, List.drop_zero]; rfl
  · obtain rfl : i = fs.length := by omega
    have he : sof fs fs.length = ord fs := rfl
    rw [he]
    have hol : (ord fs).length ≤ 10 := by have := sof_len (fs := fs) fs.length; rw [he] at this; omega
    refine loopS (σ := Nat × Ent × List Ent × G × G) (fun s => frm 101 [(0, .sl 1 (fv fs) g), (2, .lp 2 0), (4, .sl 1 (iw (ord fs)) g4), (12, .lp 12 0), (13, .int .i64 s.1)])
      (fun s => [(2, [.int .u64 0, .int .u64 0, .sl 1 [] .full, .sl 3 [] .full, .int .i64 0]), (12, [.int .u64 s.2.1.ix, .int .u64 s.2.1.tm, .sl 1 [] s.2.2.2.1, .sl 3 (es s.2.2.1) s.2.2.2.2, .int .i64 (ord fs).length])]) (fun s => (ord fs).length - s.1)
      (fun s h' => s.1 ≤ (ord fs).length ∧ h.Sub h' ∧ RS fs s.1 s.2.1 s.2.2.1) (0, ⟨0, 0, []⟩, [], .full, .full) rfl ⟨by simp, k2, ⟨rfl, by simp, by simp, rfl⟩⟩ ?_
    rintro ⟨j, F, L, gb, gl⟩ h2 ⟨j1, j2, rs⟩
    simp only at j1 j2 rs ⊢
    by_cases hj : j < (ord fs).length
    · obtain ⟨a1, a2⟩ := ord_at hj
      repeat' (first | ((with_reducible apply Nx.mk); conv => whnf) | ((with_reducible apply RdV.i); (next => first | rfl | fail)) | ((with_reducible first | apply brS_i | apply spB_i) <;> intro c <;> (try exact absurd c (by decide)) <;> (try simp only [decide_eq_true_eq, decide_eq_false_iff_not, beq_iff_eq, bne_iff_ne, Bool.not_eq_true', Bool.not_eq_false', beq_eq_false_iff_ne, Bool.not_true, Bool.not_false, reduceCtorEq, ne_eq, bne_eq_false_iff_eq, Int.not_lt, Int.not_le, Decidable.not_not] at c) <;> (try (exfalso; omega))) | ((with_reducible apply RdE.i); (next => first | with_reducible rfl | fail); (next => first | with_reducible exact fv_at (by omega) | with_reducible exact iw_at (by omega) | fail)) | ((with_reducible apply Nm.i); (next => first | with_reducible exact iw_len _ | fail)) | ((with_reducible apply Wr.i); (next => first | with_reducible exact wn_addl (by omega) | with_reducible exact wn_subl (by omega) (by omega) | fail)) | ((with_reducible apply Plan.i); (next => kernel_rfl); (next => kernel_rfl)) | (refine CallS.by' n49 (rfile_c (s := ⟨F, L, false, 0⟩) rfl rfl _ _ _ _ (rs.wf (by omega) hb _) (fhOk_k a2)) ?_; rintro r' h' ⟨gb', g', F', L', ok, hsb, rfl, hm⟩) | with_reducible apply And.intro | exact trivial | exact Nat.le_of_ble_eq_true rfl | fail)
      · have hk : ok = false := by cases ok with | false => rfl | true => exact (c rfl).elim
        have e := rs.no hj (by rw [Bool.eq_iff_iff]; simp) (by rw [Bool.eq_iff_iff]; simp; omega) hk hm
        rw [hk]
        rw [e]
        exact Js.Fin.mk ⟨fun x o e => hsb x o (j2 x o e), .full, .full, 0, rfl⟩
      · have hk : ok = true := by cases ok with | false => cases c | true => rfl
        have e := rs.yes hj (by omega) hb (by rw [Bool.eq_iff_iff]; simp) (by rw [Bool.eq_iff_iff]; simp; omega) hk hm
        exact Js.Fin.mk ⟨(j + 1, F', L', gb', g'), rfl, ⟨by simp only; omega, fun x o e => hsb x o (j2 x o e), e⟩, by simp only; omega⟩
    · repeat' (first | ((with_reducible apply Nx.mk); conv => whnf) | ((with_reducible first | apply brS_i | apply spB_i) <;> intro c <;> (try exact absurd c (by decide)) <;> (try simp only [decide_eq_true_eq, decide_eq_false_iff_not, beq_iff_eq, bne_iff_ne, Bool.not_eq_true', Bool.not_eq_false', beq_eq_false_iff_ne, Bool.not_true, Bool.not_false, reduceCtorEq, ne_eq, bne_eq_false_iff_eq, Int.not_lt, Int.not_le, Decidable.not_not] at c) <;> (try (exfalso; omega))) | ((with_reducible apply Nm.i); (next => first | with_reducible exact iw_len _ | fail)) | with_reducible apply And.intro | exact Nat.le_of_ble_eq_true rfl | fail)
      rw [rs.end' (by omega)]
      exact Js.Fin.mk ⟨j2, gb, gl, _, rfl⟩
end J
end

section
/- What files have, as the program tells it. -/
namespace J
open Go Go.Proofs Jb Js
set_option maxRecDepth 100000
set_option maxHeartbeats 4000000


theorem c47 {args : List V} {h : Heap} {K : V → Heap → Prop} (hn : Nat.ble args.length Tryz.f47.ntmps = true) (e : Nx (bodyS Tryz.prog ⟨[2, 8], [(0, [], [3]), (2, [4, 5, 3, 21], []), (6, [], [3]), (7, [4, 5, 3, 21], [])], false⟩ Tryz.f47 args h K)) : CallW Tryz.prog 47 args h K := CallW.go mix _ Tryz.func47 (Nat.le_of_ble_eq_true hn) rfl e
theorem n47 : enters Tryz.prog 47 = true := by kernel_rfl
theorem i47 {args : List V} {h : Heap} {K : V → Heap → Prop} (hn : Nat.ble args.length Tryz.f47.ntmps = true) (e : Nx (bodyS Tryz.prog ⟨[2, 8], [(0, [], [3]), (2, [4, 5, 3, 21], []), (6, [], [3]), (7, [4, 5, 3, 21], [])], false⟩ Tryz.f47 args h K)) : CallS Tryz.prog 47 args h K := ⟨AnyW.call n47 (c47 hn e)⟩
theorem iv_at' {l : List Nat} {R : List V} {i : Nat} (h : i < l.length) : (iv l ++ R)[0 + i * 1]? = some (.int .i64 (l.getD i 0 : Nat)) := iv_at (by simp [h])
theorem Lg.sub {h h' : Heap} {p : Nat} {F : Ent} {L : List Ent} {g : G} (l : Lg h p F L g) (s : h.Sub h') : Lg h' p F L g := ⟨s _ _ l.at', fun t e => s _ _ (l.slot t e), l.yes⟩
theorem Kp.sub {h h2 h' : Heap} {p : Nat} {g g' : G} (k : Kp p h g h2 g') (s : h2.Sub h') : Kp p h g h' g' := ⟨fun x o hx hg e => s _ _ (k.keep x o hx hg e), k.slot⟩
theorem scan_c {fs : List (List UInt8)} {g : G} {h : Heap} (h10 : fs.length ≤ 10) (hb : ∀ b ∈ fs, b.length ≤ 3000) :
    CallW Tryz.prog 47 [.sl 1 (fv fs) g] h fun r' h' => h.Sub h' ∧ (outF fs).2.1.length ≤ 30000 ∧ ∃ gl bl n cap, r' = .tup [.agg [.int .u64 (outF fs).1.ix, .int .u64 (outF fs).1.tm, .sl 1 [] .full, .sl 3 (es (outF fs).2.1) gl], .sref 1 bl 0 n cap, .int .i64 (outF fs).2.2] := by
  refine c47 rfl ?_
  repeat' (first | ((with_reducible apply Nx.mk); conv => whnf) | ((with_reducible apply New.i); intro l hl) | (refine CallS.by' n105 (order_c h10 hb) ?_; rintro r' h' ⟨hs, bl, cap, rfl, ho⟩) | fail)
  have hol : (ord fs).length ≤ 10 := by have := sof_len (fs := fs) fs.length; have he : sof fs fs.length = ord fs := rfl; rw [he] at this; omega
  have hl1 : Lg h' l ⟨0, 0, []⟩ [] .full := ⟨hs _ _ (hp_same _ _ _), by simp, by simp⟩
  have hs0 : h.Sub h' := fun x o e => hs x o (hp_new hl e)
  have hlp : h l = none := hl
  clear hs hl
  refine loopS (σ := Nat × Ent × List Ent) (fun s => frm 33 [(0, .sl 1 (fv fs) g), (2, .ptr l 0), (3, .sref 1 bl 0 (ord fs).length cap), (9, .sref 1 bl 0 (ord fs).length cap), (10, .int .i64 (ord fs).length), (11, .int .i64 s.1)]) (fun _ => []) (fun s => (ord fs).length - s.1)
    (fun s h2 => ∃ g2, s.1 ≤ (ord fs).length ∧ Lg h2 l s.2.1 s.2.2 g2 ∧ Kp l h' .full h2 g2 ∧ RS fs s.1 s.2.1 s.2.2) (0, ⟨0, 0, []⟩, []) rfl ⟨.full, by simp, hl1, Kp.rfl' _ _ _, ⟨rfl, by simp, by simp, rfl⟩⟩ ?_
  rintro ⟨j, F, L⟩ h2 ⟨g2, j1, lg, kp, rs⟩
  simp only at j1 lg kp rs ⊢
  by_cases hj : j < (ord fs).length
  · obtain ⟨a1, a2⟩ := ord_at hj
    rcases ho with ⟨hz, _, _⟩ | ⟨R, ho, hbn⟩
    · rw [hz] at hj; cases hj
    · have hbl : bl ≠ l := by rintro rfl; simp at hbn
      have hob : h2 bl = some (.cells (iv (ord fs) ++ R)) := kp.keep bl _ hbl (by simp) ho
      repeat' (first | ((with_reducible apply Nx.mk); conv => whnf) | ((with_reducible apply RdC.i); (next => ((repeat (first | with_reducible assumption | fail)); (first | done | fail))); (next => first | with_reducible exact iv_at' hj | fail)) | ((with_reducible apply RdV.i); (next => first | rfl | fail)) | ((with_reducible apply At.i); (next => first | with_reducible rfl | fail); (next => first | omega | fail)) | ((with_reducible apply RdH.i); (next => ((repeat (first | exact hp_same _ _ _ | exact Lg.at' (by with_reducible assumption) | fail)); (first | done | fail)))) | ((with_reducible first | apply brS_i | apply spB_i) <;> intro c <;> (try exact absurd c (by decide)) <;> (try simp only [decide_eq_true_eq, decide_eq_false_iff_not, beq_iff_eq, bne_iff_ne, Bool.not_eq_true', Bool.not_eq_false', beq_eq_false_iff_ne, Bool.not_true, Bool.not_false, reduceCtorEq, ne_eq, bne_eq_false_iff_eq, Int.not_lt, Int.not_le, Decidable.not_not] at c) <;> (try (exfalso; omega))) | ((with_reducible apply RdE.i); (next => first | with_reducible rfl | fail); (next => first | with_reducible exact fv_at (by omega) | fail)) | ((with_reducible apply Wr.i); (next => first | with_reducible exact wn_addl (by omega) | with_reducible exact wn_subl (by omega) (by omega) | fail)) | ((with_reducible apply Up.i); (next => first | rfl | fail)) | (refine CallS.by' n106 (read_c (s := ⟨F, L, false, 0⟩) lg rfl rfl _ _ _ _ (rs.wf (by omega) hb _)) ?_; rintro r' h3 ⟨g3, h4, F', L', ok, lg3, kp3, hs3, rfl, hm⟩; have lg5 := lg3.sub hs3; have kp5 := kp3.sub hs3) | with_reducible apply And.intro | exact trivial | exact Nat.le_of_ble_eq_true rfl | fail)
      · have hk : ok = false := c
        subst hk
        have e := rs.no hj (by rw [Bool.eq_iff_iff]; simp) (by rw [Bool.eq_iff_iff]; simp; omega) rfl hm
        rw [e]
        exact Js.Fin.mk ⟨fun x o q => hp_ne (by rintro rfl; rw [hlp] at q; cases q) ((Kp.trans kp lg.at' kp5).keep x o (by rintro rfl; rw [hlp] at q; cases q) (by simp) (hs0 x o q)), by simp, .full, 0, 0, 0, rfl⟩
      · have hk : ok = true := c
        have e := rs.yes hj (by omega) hb (by rw [Bool.eq_iff_iff]; simp) (by rw [Bool.eq_iff_iff]; simp; omega) hk hm
        exact Js.Fin.mk ⟨(j + 1, F', L'), rfl, ⟨g3, by simp only; omega, lg5, Kp.trans kp lg.at' kp5, e⟩, by simp only; omega⟩
  · repeat' (first | ((with_reducible apply Nx.mk); conv => whnf) | ((with_reducible apply RdH.i); (next => ((repeat (first | exact hp_same _ _ _ | exact Lg.at' (by with_reducible assumption) | fail)); (first | done | fail)))) | ((with_reducible first | apply brS_i | apply spB_i) <;> intro c <;> (try exact absurd c (by decide)) <;> (try simp only [decide_eq_true_eq, decide_eq_false_iff_not, beq_iff_eq, bne_iff_ne, Bool.not_eq_true', Bool.not_eq_false', beq_eq_false_iff_ne, Bool.not_true, Bool.not_false, reduceCtorEq, ne_eq, bne_eq_false_iff_eq, Int.not_lt, Int.not_le, Decidable.not_not] at c) <;> (try (exfalso; omega))) | ((with_reducible apply Up.i); (next => first | rfl | fail)) | with_reducible apply And.intro | exact Nat.le_of_ble_eq_true rfl | fail)
    rw [rs.end' (by omega)]
    exact Js.Fin.mk ⟨fun x o q => hp_ne (by rintro rfl; rw [hlp] at q; cases q) (kp.keep x o (by rintro rfl; rw [hlp] at q; cases q) (by simp) (hs0 x o q)), by have := rs.len; simp only; omega, g2, bl, _, cap, rfl⟩

theorem c12 {args : List V} {h : Heap} {K : V → Heap → Prop} (hn : Nat.ble args.length Tryz.f12.ntmps = true) (e : Nx (bodyS Tryz.prog ⟨[9], [], false⟩ Tryz.f12 args h K)) : CallW Tryz.prog 12 args h K := CallW.go mix _ Tryz.func12 (Nat.le_of_ble_eq_true hn) rfl e
theorem n12 : enters Tryz.prog 12 = true := by kernel_rfl
theorem i12 {args : List V} {h : Heap} {K : V → Heap → Prop} (hn : Nat.ble args.length Tryz.f12.ntmps = true) (e : Nx (bodyS Tryz.prog ⟨[9], [], false⟩ Tryz.f12 args h K)) : CallS Tryz.prog 12 args h K := ⟨AnyW.call n12 (c12 hn e)⟩
theorem Scan_c {fs : List (List UInt8)} {g : G} {h : Heap} (h10 : fs.length ≤ 10) (hb : ∀ b ∈ fs, b.length ≤ 3000) :
    CallW Tryz.prog 12 [.sl 1 (fv fs) g] h fun r' h' => h.Sub h' ∧ (outF fs).2.1.length ≤ 30000 ∧ ∃ gl, r' = .tup [.agg [.int .u64 (outF fs).1.ix, .int .u64 (outF fs).1.tm, .sl 1 [] .full], .sl 3 (es (outF fs).2.1) gl, .int .i64 (outF fs).2.2] := by
  refine c12 rfl ?_
  repeat' (first | ((with_reducible apply Nx.mk); conv => whnf) | ((with_reducible apply RdV.i); (next => first | rfl | fail)) | ((with_reducible apply Plan.i); (next => kernel_rfl); (next => kernel_rfl)) | (refine CallS.by' n47 (scan_c h10 hb) ?_; rintro r' h' ⟨hs, hlen, gl, bl, n, cap, rfl⟩) | with_reducible apply And.intro | exact trivial | exact EqV.mk rfl | exact Nat.le_of_ble_eq_true rfl | fail)
  exact Js.Fin.mk ⟨hs, hlen, gl, rfl⟩
end J
end

section
/- The law's own functions. -/
namespace J
open Go Go.Proofs Jb Js
set_option maxRecDepth 100000
set_option maxHeartbeats 4000000
theorem c10 {args : List V} {h : Heap} {K : V → Heap → Prop} (hn : Nat.ble args.length Tryz.f10.ntmps = true) (e : Nx (bodyS Tryz.prog ⟨[], [(1, [2, 1, 1, 1, 3, 10], []), (6, [2, 1, 1, 1, 3, 10], [])], false⟩ Tryz.f10 args h K)) : CallW Tryz.prog 10 args h K := CallW.go mix _ Tryz.func10 (Nat.le_of_ble_eq_true hn) rfl e
theorem n10 : enters Tryz.prog 10 = true := by kernel_rfl
theorem i10 {args : List V} {h : Heap} {K : V → Heap → Prop} (hn : Nat.ble args.length Tryz.f10.ntmps = true) (e : Nx (bodyS Tryz.prog ⟨[], [(1, [2, 1, 1, 1, 3, 10], []), (6, [2, 1, 1, 1, 3, 10], [])], false⟩ Tryz.f10 args h K)) : CallS Tryz.prog 10 args h K := ⟨AnyW.call n10 (c10 hn e)⟩
theorem c15 {args : List V} {h : Heap} {K : V → Heap → Prop} (hn : Nat.ble args.length Tryz.f15.ntmps = true) (e : Nx (bodyS Tryz.prog ⟨[], [(2, [0, 1, 1, 1, 2, 1, 3, 9], []), (6, [0, 1, 1, 1, 2, 1, 3, 9], [])], false⟩ Tryz.f15 args h K)) : CallW Tryz.prog 15 args h K := CallW.go mix _ Tryz.func15 (Nat.le_of_ble_eq_true hn) rfl e
theorem n15 : enters Tryz.prog 15 = true := by kernel_rfl
theorem i15 {args : List V} {h : Heap} {K : V → Heap → Prop} (hn : Nat.ble args.length Tryz.f15.ntmps = true) (e : Nx (bodyS Tryz.prog ⟨[], [(2, [0, 1, 1, 1, 2, 1, 3, 9], []), (6, [0, 1, 1, 1, 2, 1, 3, 9], [])], false⟩ Tryz.f15 args h K)) : CallS Tryz.prog 15 args h K := ⟨AnyW.call n15 (c15 hn e)⟩
theorem c14 {args : List V} {h : Heap} {K : V → Heap → Prop} (hn : Nat.ble args.length Tryz.f14.ntmps = true) (e : Nx (bodyS Tryz.prog ⟨[], [(3, [4, 8, 2, 42], []), (8, [4, 8, 2, 42], [])], false⟩ Tryz.f14 args h K)) : CallW Tryz.prog 14 args h K := CallW.go mix _ Tryz.func14 (Nat.le_of_ble_eq_true hn) rfl e
theorem n14 : enters Tryz.prog 14 = true := by kernel_rfl
theorem i14 {args : List V} {h : Heap} {K : V → Heap → Prop} (hn : Nat.ble args.length Tryz.f14.ntmps = true) (e : Nx (bodyS Tryz.prog ⟨[], [(3, [4, 8, 2, 42], []), (8, [4, 8, 2, 42], [])], false⟩ Tryz.f14 args h K)) : CallS Tryz.prog 14 args h K := ⟨AnyW.call n14 (c14 hn e)⟩
def lightF (fs : List (List UInt8)) : Bool := fs.all (fun b => decide (b.length ≤ 3000)) && decide (fs.length ≤ 10)
theorem fa_mem {fs : List (List UInt8)} {i : Nat} (h : i < fs.length) : fa fs i ∈ fs := by simp [fa, h]
theorem light_g {fs : List (List UInt8)} {g : G} {h : Heap} (h10 : fs.length ≤ 9223372036854775807) : Gives Tryz.prog 10 [.sl 1 (fv fs) g] h (.bool (lightF fs)) h := by
  refine c10 rfl ?_
  repeat' (first | ((with_reducible apply Nx.mk); conv => whnf) | ((with_reducible apply Nm.i); (next => first | with_reducible exact fv_len _ | fail)) | fail)
  refine loopS (σ := Nat) (fun i => frm 18 [(0, .sl 1 (fv fs) g), (5, .sl 1 (fv fs) g), (6, .int .i64 fs.length), (7, .int .i64 i)]) (fun _ => []) (fun i => fs.length - i)
    (fun i h' => h' = h ∧ i ≤ fs.length ∧ ∀ b ∈ fs.take i, b.length ≤ 3000) 0 rfl ⟨rfl, by simp, by simp⟩ ?_
  rintro i h1 ⟨rfl, k1, k2⟩
  (try simp only at k1 k2 ⊢)
  repeat' (first | ((with_reducible apply Nx.mk); conv => whnf) | ((with_reducible apply RdV.i); (next => first | rfl | fail)) | ((with_reducible first | apply brS_i | apply spB_i) <;> intro c <;> (try exact absurd c (by decide)) <;> (try simp only [decide_eq_true_eq, decide_eq_false_iff_not, beq_iff_eq, bne_iff_ne, Bool.not_eq_true', Bool.not_eq_false', beq_eq_false_iff_ne, Bool.not_true, Bool.not_false, reduceCtorEq, ne_eq, bne_eq_false_iff_eq, Int.not_lt, Int.not_le, Decidable.not_not] at c) <;> (try (exfalso; omega))) | ((with_reducible apply RdE.i); (next => first | with_reducible rfl | fail); (next => first | with_reducible exact fv_at (by omega) | fail)) | ((with_reducible apply Nm.i); (next => first | with_reducible exact fv_len _ | with_reducible exact bs_len _ | fail)) | ((with_reducible apply Wr.i); (next => first | with_reducible exact wn_addl (by omega) | fail)) | fail)
  · have e : lightF fs = false := by
      have hi : i < fs.length := by omega
      unfold lightF
      rw [Bool.and_eq_false_iff]
      refine .inl (Bool.eq_false_iff.2 fun q => ?_)
      have := List.all_eq_true.1 q _ (fa_mem hi)
      simp at this
      omega
    refine Js.Fin.mk ⟨?_, by (repeat (first | exact Heap.sub_rfl _ | fail))⟩
    rw [e]; exact .rfl _
  · refine Js.Fin.mk ⟨i + 1, rfl, ⟨rfl, by omega, fun b hb => ?_⟩, by omega⟩
    have hi : i < fs.length := by omega
    rw [List.take_succ_eq_append_getElem hi] at hb
    rcases List.mem_append.1 hb with hb | hb
    · exact k2 b hb
    · simp at hb; subst hb
      have : fa fs i = fs[i] := by simp [fa, hi]
      rw [← this]; omega
  · refine Js.Fin.mk ⟨?_, by (repeat (first | exact Heap.sub_rfl _ | fail))⟩
    have e : lightF fs = decide ((fs.length : Int) ≤ 10) := by
      rw [List.take_of_length_le (by omega)] at k2
      unfold lightF
      rw [show fs.all (fun b => decide (b.length ≤ 3000)) = true from List.all_eq_true.2 fun b hb => decide_eq_true (k2 b hb), Bool.true_and]
      exact decide_eq_decide.2 (by omega)
    rw [e]; exact .rfl _
theorem es_snoc' {L : List Ent} {i : Nat} (h : i < L.length) : es (L.take i) ++ [[.int .u64 (ea L i).ix, .int .u64 (ea L i).tm, .sl 1 (bs (ea L i).b) .no]] = es (L.take (i + 1)) := by
  rw [List.take_succ_eq_append_getElem h, ← es_app]; congr 1; simp [es, er, ea, h]
theorem plain_g {L : List Ent} {g : G} {h : Heap} (hl : L.length < 4294967200) : Gives Tryz.prog 15 [.sl 3 (es L) g] h (.sl 3 (es L) .no) h := by
  refine c15 rfl ?_
  repeat' (first | ((with_reducible apply Nx.mk); conv => whnf) | ((with_reducible apply Nm.i); (next => first | with_reducible exact es_len _ | fail)) | fail)
  refine loopS (σ := Nat × G) (fun s => frm 18 [(3, .sl 3 (es (L.take s.1)) s.2), (6, .sl 3 (es L) g), (7, .int .i64 L.length), (8, .int .i64 s.1)]) (fun _ => []) (fun s => L.length - s.1)
    (fun s h' => s.1 ≤ L.length ∧ h.Sub h' ∧ Can s.2 3 (L.take s.1).length h' ∧ ∀ t, s.2 = .own t → h t = none) (0, .full) rfl ⟨by simp, Heap.sub_rfl _, .inl rfl, by simp⟩ ?_
  rintro ⟨i, g3⟩ h1 ⟨k1, k2, k3, k4⟩
  simp only at k1 k2 k3 k4 ⊢
  by_cases hi : i < L.length
  · have hti : (L.take i).length = i := by simp; omega
    have hg : g3 ≠ .no := by rcases k3 with rfl | ⟨s, rfl, _⟩ <;> simp
    repeat' (first | ((with_reducible apply Nx.mk); conv => whnf) | ((with_reducible first | apply brS_i | apply spB_i) <;> intro c <;> (try exact absurd c (by decide)) <;> (try simp only [decide_eq_true_eq, decide_eq_false_iff_not, beq_iff_eq, bne_iff_ne, Bool.not_eq_true', Bool.not_eq_false', beq_eq_false_iff_ne, Bool.not_true, Bool.not_false, reduceCtorEq, ne_eq, bne_eq_false_iff_eq, Int.not_lt, Int.not_le, Decidable.not_not] at c) <;> (try (exfalso; omega))) | ((with_reducible apply RdE.i); (next => first | with_reducible rfl | fail); (next => first | with_reducible exact es_at (by omega) | fail)) | ((with_reducible apply Nm.i); (next => first | with_reducible exact es_len _ | with_reducible exact es_snoc' hi | rfl | fail)) | ((with_reducible apply Wr.i); (next => first | with_reducible exact wn_addl (by omega) | fail)) | ((with_reducible apply App.i); (next => (repeat (first | with_reducible assumption | fail))); intro g' hg') | with_reducible apply And.intro | exact trivial | exact Nat.le_of_ble_eq_true rfl | exact rfl | fail)
    · unfold mostLen; simp only [List.length_singleton]; omega
    · have e : (L.take i).length + [[V.int .u64 (ea L i).ix, V.int .u64 (ea L i).tm, V.sl 1 (bs (ea L i).b) .no]].length = (L.take (i + 1)).length := by simp; omega
      rw [e]
      exact Js.Fin.mk ⟨(i + 1, g'), rfl, ⟨by simp only; omega, sub_gr hg' (own_step k2 k4 hg hg') k2, can_gr hg', own_step k2 k4 hg hg'⟩, by simp only; omega⟩
  · rw [List.take_of_length_le (by omega)]
    repeat' (first | ((with_reducible apply Nx.mk); conv => whnf) | ((with_reducible first | apply brS_i | apply spB_i) <;> intro c <;> (try exact absurd c (by decide)) <;> (try simp only [decide_eq_true_eq, decide_eq_false_iff_not, beq_iff_eq, bne_iff_ne, Bool.not_eq_true', Bool.not_eq_false', beq_eq_false_iff_ne, Bool.not_true, Bool.not_false, reduceCtorEq, ne_eq, bne_eq_false_iff_eq, Int.not_lt, Int.not_le, Decidable.not_not] at c) <;> (try (exfalso; omega))) | fail)
    exact Js.Fin.mk ⟨.sl _ _ _, k2⟩
theorem same_g {L : List Ent} {g g2 : G} {h : Heap} (hl : L.length < 4294967200) : Gives Tryz.prog 14 [.sl 3 (es L) g, .sl 3 (es L) g2] h (.bool true) h := by
  refine c14 rfl ?_
  repeat' (first | ((with_reducible apply Nx.mk); conv => whnf) | ((with_reducible first | apply brS_i | apply spB_i) <;> intro c <;> (try exact absurd c (by decide)) <;> (try simp only [decide_eq_true_eq, decide_eq_false_iff_not, beq_iff_eq, bne_iff_ne, Bool.not_eq_true', Bool.not_eq_false', beq_eq_false_iff_ne, Bool.not_true, Bool.not_false, reduceCtorEq, ne_eq, bne_eq_false_iff_eq, Int.not_lt, Int.not_le, Decidable.not_not] at c) <;> (try (exfalso; omega))) | ((with_reducible apply Nm.i); (next => first | with_reducible exact es_len _ | fail)) | fail)
  · exact absurd trivial (by assumption)
  refine loopS (σ := Nat) (fun i => frm 56 [(0, .sl 3 (es L) g), (1, .sl 3 (es L) g2), (12, .int .i64 L.length), (13, .int .i64 i)]) (fun _ => []) (fun i => L.length - i)
    (fun i h' => h' = h ∧ i ≤ L.length) 0 rfl ⟨rfl, by simp⟩ ?_
  rintro i h1 ⟨rfl, k1⟩
  (try simp only at k1 ⊢)
  repeat' (first | ((with_reducible apply Nx.mk); conv => whnf) | ((with_reducible apply RdV.i); (next => first | rfl | fail)) | ((with_reducible first | apply brS_i | apply spB_i) <;> intro c <;> (try exact absurd c (by decide)) <;> (try simp only [decide_eq_true_eq, decide_eq_false_iff_not, beq_iff_eq, bne_iff_ne, Bool.not_eq_true', Bool.not_eq_false', beq_eq_false_iff_ne, Bool.not_true, Bool.not_false, reduceCtorEq, ne_eq, bne_eq_false_iff_eq, Int.not_lt, Int.not_le, Decidable.not_not] at c) <;> (try (exfalso; omega))) | ((with_reducible apply RdE.i); (next => first | with_reducible rfl | fail); (next => first | with_reducible exact es_at (by omega) | fail)) | ((with_reducible apply Wr.i); (next => first | with_reducible exact wn_addl (by omega) | fail)) | ((with_reducible apply ToS.i); (next => exact bs_byte _); (next => exact bs_tx _)) | ((with_reducible apply Plan.i); (next => kernel_rfl); (next => kernel_rfl)) | with_reducible intro _ | fail)
  all_goals first
    | exact absurd trivial (by assumption)
    | exact Js.Fin.mk ⟨i + 1, rfl, ⟨rfl, by omega⟩, by omega⟩
    | exact Js.Fin.mk ⟨.rfl _, by (repeat (first | exact Heap.sub_rfl _ | fail))⟩
end J
end
