/- Proved here: of JO11, that what the Go functions of this part compute is as their contracts say (texts Kn), for every input; no condition beyond those that each theorem states. -/
import Derived.Test.YtoimhhmlkbdodaaGreatJO10
set_option linter.all false
section
/- JournalOpens: what the law's function tells. -/
namespace J
open Go Go.Proofs Jb Js
set_option maxRecDepth 100000
set_option maxHeartbeats 4000000


theorem c19 {args : List V} {h : Heap} {K : V → Heap → Prop} (hn : Nat.ble args.length Tryz.f19.ntmps = true) (e : Nx (bodyS Tryz.prog ⟨[], [], false⟩ Tryz.f19 args h K)) : CallW Tryz.prog 19 args h K := CallW.go mix _ Tryz.func19 (Nat.le_of_ble_eq_true hn) rfl e
theorem n19 : enters Tryz.prog 19 = true := by kernel_rfl
theorem c23 {args : List V} {h : Heap} {K : V → Heap → Prop} (hn : Nat.ble args.length Tryz.f23.ntmps = true) (e : Nx (bodyS Tryz.prog ⟨[], [(3, [0, 1, 3, 7, 3, 13], []), (8, [0, 1, 3, 7, 3, 13], [])], false⟩ Tryz.f23 args h K)) : CallW Tryz.prog 23 args h K := CallW.go mix _ Tryz.func23 (Nat.le_of_ble_eq_true hn) rfl e
theorem n23 : enters Tryz.prog 23 = true := by kernel_rfl
theorem c20 {args : List V} {h : Heap} {K : V → Heap → Prop} (hn : Nat.ble args.length Tryz.f20.ntmps = true) (e : Nx (bodyS Tryz.prog ⟨[], [(2, [2, 1, 3, 1, 1, 1, 2, 12], []), (6, [2, 1, 3, 1, 1, 1, 2, 12], [])], false⟩ Tryz.f20 args h K)) : CallW Tryz.prog 20 args h K := CallW.go mix _ Tryz.func20 (Nat.le_of_ble_eq_true hn) rfl e
theorem n20 : enters Tryz.prog 20 = true := by kernel_rfl
theorem c4 {args : List V} {h : Heap} {K : V → Heap → Prop} (hn : Nat.ble args.length Tryz.f4.ntmps = true) (e : Nx (bodyS Tryz.prog ⟨[], [(4, [6, 1, 1, 24, 3, 146], []), (8, [6, 1, 1, 24, 3, 146], []), (17, [0, 1, 1, 1, 3, 1, 1, 2, 3, 1, 4, 97, 2, 64], []), (22, [0, 1, 1, 1, 3, 1, 1, 2, 3, 1, 4, 97, 2, 64], [])], false⟩ Tryz.f4 args h K)) : CallW Tryz.prog 4 args h K := CallW.go mix _ Tryz.func4 (Nat.le_of_ble_eq_true hn) rfl e
theorem n4 : enters Tryz.prog 4 = true := by kernel_rfl
def Bd (L : List Ent) : Prop := ∀ e ∈ L, e.b.length ≤ 512
theorem Bd.take {L : List Ent} (h : Bd L) (k : Nat) : Bd (L.take k) := fun e he => h e (List.mem_of_mem_take he)
theorem textV_len (b : List UInt8) : (textV 512 b).length ≤ 512 := by
  have := natV_le 512 b
  unfold textV; split
  · simp only [List.length_take]; omega
  · simp
theorem step1_bd {old : Bool} {s t : FS} {k : Nat} {b : List UInt8} (h : Bd s.L) (e : step1 old s k b = some t) : Bd t.L := by
  unfold step1 at e
  split at e
  · split at e
    · cases e
      simp only
      split
      · intro x hx; simp at hx
      · obtain ⟨k, hk⟩ := toL_pre s.F s.L (hdIx b) (hdTm b)
        rw [hk]; exact h.take k
    · cases e
  · split at e
    · split at e
      · rename_i ha
        cases e
        simp only
        rw [show adL s.F s.L b = s.L ++ [adEnt b] from if_pos ha]
        intro x hx
        rcases List.mem_append.1 hx with hx | hx
        · exact h x hx
        · simp at hx; subst hx; exact textV_len _
      · cases e
    · split at e
      · split at e
        · rename_i hc
          cases e
          simp only
          rw [show ctL s.F s.L s.own b = s.L.take (ctFrom b - 1 - s.F.ix) from if_pos hc]
          exact h.take _
        · cases e
      · cases e
theorem steps_bd {old : Bool} : ∀ (n : Nat) (b : List UInt8) (s t : FS), b.length ≤ n → Bd s.L → steps old s b = some t → Bd t.L
  | n, b, s, t, hn, h, e => by
    by_cases hE : tkE b = 0
    · have q := tk_len hE
      rw [steps_go hE] at e
      cases n with
      | zero => omega
      | succ n =>
        cases e1 : step1 old s (tkK b) (tkB b) with
        | none => rw [e1] at e; cases e
        | some u => rw [e1] at e; exact steps_bd n _ u t (by simp only [List.length_drop]; omega) (step1_bd h e1) e
    · rw [steps_end hE] at e; cases e; exact h
theorem runF_bd {fs : List (List UInt8)} {E : Ent} {L2 : List Ent} : ∀ (l : List Nat) (old : Bool) (F : Ent) (L : List Ent), Bd L → runF fs old F L l = some (E, L2) → Bd L2
  | [], _, _, _, h, e => by cases e; exact h
  | x :: r, old, F, L, h, e => by
    rw [runF_go] at e
    cases hs : steps old ⟨F, L, false, 0⟩ (fa fs x) with
    | none => rw [hs] at e; cases e
    | some t =>
      rw [hs] at e
      simp only at e
      split at e
      · exact runF_bd r false t.F t.L (steps_bd _ _ _ _ (Nat.le_refl _) h hs) e
      · cases e
theorem outF_bd (fs : List (List UInt8)) (i : Nat) : (ea (outF fs).2.1 i).b.length < 4294967296 := by
  have h : Bd (outF fs).2.1 := by
    unfold outF
    cases e : runF fs true ⟨0, 0, []⟩ [] (ord fs) with
    | none => intro x hx; simp at hx
    | some p => exact runF_bd _ _ _ _ (by intro x hx; simp at hx) e
  unfold ea
  rw [List.getD_eq_getElem?_getD]
  cases he : (outF fs).2.1[i]? with
  | none => simp
  | some x => have := h x (List.mem_of_getElem? he); simp; omega
theorem rs_end {fs : List (List UInt8)} (h10 : fs.length ≤ 10) (hb : ∀ b ∈ fs, b.length ≤ 1048576) : ∀ (n j : Nat) (F : Ent) (L : List Ent), (ord fs).length - j = n → j ≤ (ord fs).length → RS fs j F L → (∃ F' L', RS fs (ord fs).length F' L') ∨ outF fs = (⟨0, 0, []⟩, [], 20)
  | 0, j, F, L, hn, hj, r => by
    obtain rfl : j = (ord fs).length := by omega
    exact .inl ⟨F, L, r⟩
  | n + 1, j, F, L, hn, hj, r => by
    have hol : (ord fs).length ≤ 10 := by have := sof_len (fs := fs) fs.length; have he : sof fs fs.length = ord fs := rfl; rw [he] at this; omega
    have hj2 : j < (ord fs).length := by omega
    cases hs : steps (j == 0) ⟨F, L, false, 0⟩ (fa fs ((ord fs).getD j 0)) with
    | none => exact .inr (r.no (ok := false) (F' := F) (L' := L) hj2 rfl rfl rfl (by rw [hs]))
    | some t =>
      cases hc : (endC (fa fs ((ord fs).getD j 0)) == 0 || (endC (fa fs ((ord fs).getD j 0)) == 31 && decide (j = (ord fs).length - 1))) with
      | false => exact .inr (r.no (ok := false) (F' := t.F) (L' := t.L) hj2 rfl rfl rfl (by rw [hs]; exact ⟨hc.symm, rfl, rfl⟩))
      | true =>
        have r2 : RS fs (j + 1) t.F t.L := r.yes (ok := true) hj2 (by omega) hb rfl rfl rfl (by rw [hs]; exact ⟨hc.symm, rfl, rfl⟩)
        exact rs_end h10 hb n (j + 1) t.F t.L (by omega) (by omega) r2
theorem outF_ok {fs : List (List UInt8)} (h10 : fs.length ≤ 10) (hb : ∀ b ∈ fs, b.length ≤ 1048576) : (outF fs).1.b = [] ∧ (outF fs).2.1.length ≤ 10485760 ∧ ∀ i, i < (outF fs).2.1.length → (ea (outF fs).2.1 i).ix = (outF fs).1.ix + 1 + i := by
  have hol : (ord fs).length ≤ 10 := by have := sof_len (fs := fs) fs.length; have he : sof fs fs.length = ord fs := rfl; rw [he] at this; omega
  rcases rs_end h10 hb _ 0 ⟨0, 0, []⟩ [] rfl (by omega) ⟨rfl, by simp, by simp, rfl⟩ with ⟨F, L, r⟩ | e
  · rw [r.end' (Nat.le_refl _)]
    exact ⟨r.nob, by have := r.len; simp only; omega, r.ixs⟩
  · rw [e]; simp
theorem dkf_eq {F : List FG} {fs : List (List UInt8)} {fi : Nat} (h : ∀ i, i < fs.length → (fg F (fi + i)).b = fa fs i) : dkf F fi fs.length = fs := by
  refine List.ext_getElem (dkf_len _ _ _) fun i h1 h2 => ?_
  rw [dkf_len] at h1
  have := h i h1
  simp only [dkf, List.getElem_map, List.getElem_range]
  rw [this]
  simp [fa, h1]
theorem floor_g {h : Heap} {j d : Nat} {s : DB} {I : JI} {gl : G} {S : List Sg} {sv : V} (J : JD h j d s I gl S sv) : Gives Tryz.prog 19 [.ptr j 0] h (.tup [.int .u64 I.E.ix, .int .u64 I.E.tm]) h := by
  refine c19 rfl ?_
  repeat' (first | ((with_reducible apply Nx.mk); conv => whnf) | ((with_reducible apply Js.Fin.mk); (with_reducible apply Nx.mk); conv => whnf) | ((with_reducible apply RdC.i); (next => ((repeat (first | exact JS.at' (by with_reducible assumption) | fail)); (first | done | fail))); (next => first | rfl | fail)) | ((with_reducible first | apply brS_i | apply spB_i) <;> intro c <;> (try exact absurd c (by decide)) <;> (try simp only [decide_eq_true_eq, decide_eq_false_iff_not, beq_iff_eq, bne_iff_ne, Bool.not_eq_true', Bool.not_eq_false', beq_eq_false_iff_ne, Bool.not_true, Bool.not_false, reduceCtorEq, ne_eq, bne_eq_false_iff_eq, Int.not_lt, Int.not_le, Decidable.not_not] at c) <;> (try (exfalso; omega))) | ((with_reducible apply Plan.i); (next => kernel_rfl); (next => kernel_rfl)) | refine i59 rfl ?_ | fail)
  exact Js.Fin.mk ⟨.rfl _, by (repeat (first | exact Heap.sub_rfl _ | fail))⟩
theorem entries_g {h : Heap} {j d : Nat} {s : DB} {I : JI} {gl : G} {S : List Sg} {sv : V} (J : JD h j d s I gl S sv) (hL : I.L.length < 4294967200) (hb : ∀ i, (ea I.L i).b.length < 4294967296) : Gives Tryz.prog 23 [.ptr j 0] h (.sl 3 (es I.L) .no) h := by
  refine c23 rfl ?_
  repeat' (first | ((with_reducible apply Nx.mk); conv => whnf) | ((with_reducible apply Js.Fin.mk); (with_reducible apply Nx.mk); conv => whnf) | ((with_reducible apply RdC.i); (next => ((repeat (first | exact JS.at' (by with_reducible assumption) | fail)); (first | done | fail))); (next => first | rfl | fail)) | ((with_reducible first | apply brS_i | apply spB_i) <;> intro c <;> (try exact absurd c (by decide)) <;> (try simp only [decide_eq_true_eq, decide_eq_false_iff_not, beq_iff_eq, bne_iff_ne, Bool.not_eq_true', Bool.not_eq_false', beq_eq_false_iff_ne, Bool.not_true, Bool.not_false, reduceCtorEq, ne_eq, bne_eq_false_iff_eq, Int.not_lt, Int.not_le, Decidable.not_not] at c) <;> (try (exfalso; omega))) | ((with_reducible apply Nm.i); (next => first | with_reducible exact es_len _ | fail)) | refine i59 rfl ?_ | fail)
  refine loopS (σ := Nat × G) (fun s => frm 27 [(2, .sl 3 (es (I.L.take s.1)) s.2), (11, .sl 3 (es I.L) gl), (12, .int .i64 I.L.length), (13, .int .i64 s.1)]) (fun _ => []) (fun s => I.L.length - s.1)
    (fun s h' => s.1 ≤ I.L.length ∧ h.Sub h' ∧ Can s.2 3 (I.L.take s.1).length h' ∧ ∀ t, s.2 = .own t → h t = none) (0, .full) rfl ⟨by simp, Heap.sub_rfl _, .inl rfl, by simp⟩ ?_
  rintro ⟨i, g3⟩ h1 ⟨k1, k2, k3, k4⟩
  simp only at k1 k2 k3 k4 ⊢
  have hg : g3 ≠ .no := by rcases k3 with rfl | ⟨s, rfl, _⟩ <;> simp
  by_cases hi : i < I.L.length
  · repeat' (first | ((with_reducible apply Nx.mk); conv => whnf) | ((with_reducible apply RdV.i); (next => first | rfl | fail)) | ((with_reducible first | apply brS_i | apply spB_i) <;> intro c <;> (try exact absurd c (by decide)) <;> (try simp only [decide_eq_true_eq, decide_eq_false_iff_not, beq_iff_eq, bne_iff_ne, Bool.not_eq_true', Bool.not_eq_false', beq_eq_false_iff_ne, Bool.not_true, Bool.not_false, reduceCtorEq, ne_eq, bne_eq_false_iff_eq, Int.not_lt, Int.not_le, Decidable.not_not] at c) <;> (try (exfalso; omega))) | ((with_reducible apply RdE.i); (next => first | with_reducible rfl | fail); (next => first | with_reducible exact es_at (by omega) | fail)) | ((with_reducible apply Nm.i); (next => first | with_reducible exact es_len _ | with_reducible exact es_snoc' hi | rfl | fail)) | ((with_reducible apply Wr.i); (next => first | with_reducible exact wn_addl (by omega) | fail)) | ((with_reducible apply App.i); (next => (repeat (first | with_reducible assumption | fail))); intro g' hg') | ((with_reducible apply HN.i); (next => first | rfl | fail)) | refine CallS.gives n61 (GivesS.weak (clone_s _ _ (hb _))) ?_ | with_reducible apply And.intro | exact trivial | exact Nat.le_of_ble_eq_true rfl | exact rfl | fail)
    · unfold mostLen; simp only [List.length_singleton]; have : (I.L.take i).length ≤ i := by simp; omega
      omega
    · have o1 := own_step k2 k4 hg hg'
      have e : (I.L.take i).length + [[V.int .u64 (ea I.L i).ix, V.int .u64 (ea I.L i).tm, V.sl 1 (bs (ea I.L i).b) .no]].length = (I.L.take (i + 1)).length := by simp; omega
      rw [e]
      exact Js.Fin.mk ⟨(i + 1, g'), rfl, ⟨by simp only; omega, sub_gr hg' o1 k2, can_gr hg', o1⟩, by simp only; omega⟩
  · rw [List.take_of_length_le (by omega)]
    repeat' (first | ((with_reducible apply Nx.mk); conv => whnf) | ((with_reducible first | apply brS_i | apply spB_i) <;> intro c <;> (try exact absurd c (by decide)) <;> (try simp only [decide_eq_true_eq, decide_eq_false_iff_not, beq_iff_eq, bne_iff_ne, Bool.not_eq_true', Bool.not_eq_false', beq_eq_false_iff_ne, Bool.not_true, Bool.not_false, reduceCtorEq, ne_eq, bne_eq_false_iff_eq, Int.not_lt, Int.not_le, Decidable.not_not] at c) <;> (try (exfalso; omega))) | fail)
    exact Js.Fin.mk ⟨.sl _ _ _, k2⟩
theorem files_g {h : Heap} {d fi mn : Nat} {F : List FG} {a : Arm} (D : Dk h d F a) (hm : fi + mn ≤ 32) : Gives Tryz.prog 20 [.ptr d 0, .int .i64 fi, .int .i64 mn] h (.sl 1 (fv (dkf F fi mn)) .no) h := by
  refine c20 rfl ?_
  repeat' (first | ((with_reducible apply Nx.mk); conv => whnf) | fail)
  refine loopS (σ := Nat × G) (fun s => frm 23 [(0, .ptr d 0), (1, .int .i64 fi), (7, .sl 1 (fv (dkf F fi s.1)) s.2), (9, .int .i64 mn), (10, .int .i64 s.1)]) (fun _ => []) (fun s => mn - s.1)
    (fun s h' => s.1 ≤ mn ∧ h.Sub h' ∧ Can s.2 1 (dkf F fi s.1).length h' ∧ ∀ t, s.2 = .own t → h t = none) (0, .full) rfl ⟨by simp, Heap.sub_rfl _, .inl rfl, by simp⟩ ?_
  rintro ⟨k, g⟩ h1 ⟨k1, k2, k3, k4⟩
  simp only at k1 k2 k3 k4 ⊢
  have D2 := D.sub k2
  have hg : g ≠ .no := by rcases k3 with rfl | ⟨s, rfl, _⟩ <;> simp
  by_cases hk : k < mn
  · repeat' (first | ((with_reducible apply Nx.mk); conv => whnf) | ((with_reducible first | apply brS_i | apply spB_i) <;> intro c <;> (try exact absurd c (by decide)) <;> (try simp only [decide_eq_true_eq, decide_eq_false_iff_not, beq_iff_eq, bne_iff_ne, Bool.not_eq_true', Bool.not_eq_false', beq_eq_false_iff_ne, Bool.not_true, Bool.not_false, reduceCtorEq, ne_eq, bne_eq_false_iff_eq, Int.not_lt, Int.not_le, Decidable.not_not] at c) <;> (try (exfalso; omega))) | ((with_reducible apply Nm.i); (next => first | with_reducible exact fv_len _ | with_reducible exact fv_snoc _ _ | rfl | fail)) | ((with_reducible apply Wr.i); (next => first | with_reducible exact wn_addl (by omega) | with_reducible exact wn_add (by omega) | fail)) | ((with_reducible apply App.i); (next => (repeat (first | with_reducible assumption | fail))); intro g' hg') | ((with_reducible apply HN.i); (next => first | rfl | fail)) | refine CallS.gives n53 (GivesS.weak (read_s D2 (by omega))) ?_ | with_reducible apply And.intro | exact trivial | fail)
    · unfold mostLen; rw [dkf_len]; simp only [List.length_singleton]; omega
    · have o1 := own_step k2 k4 hg hg'
      refine Js.Fin.mk ⟨(k + 1, g'), by simp only [dkf_succ] <;> rfl, ⟨by simp only; omega, sub_gr hg' o1 k2, ?_, o1⟩, by simp only; omega⟩
      simp only [dkf_succ, List.length_append]
      exact can_gr hg'
  · obtain rfl : k = mn := by omega
    repeat' (first | ((with_reducible apply Nx.mk); conv => whnf) | ((with_reducible first | apply brS_i | apply spB_i) <;> intro c <;> (try exact absurd c (by decide)) <;> (try simp only [decide_eq_true_eq, decide_eq_false_iff_not, beq_iff_eq, bne_iff_ne, Bool.not_eq_true', Bool.not_eq_false', beq_eq_false_iff_ne, Bool.not_true, Bool.not_false, reduceCtorEq, ne_eq, bne_eq_false_iff_eq, Int.not_lt, Int.not_le, Decidable.not_not] at c) <;> (try (exfalso; omega))) | fail)
    exact Js.Fin.mk ⟨.sl _ _ _, k2⟩
theorem open_bad {h : Heap} {d fi mn : Nat} {ec : Int} {F : List FG} {a : Arm} (D : Dk h d F a) (hd : a.down = false) (h10 : mn ≤ 10) (hfi : fi ≤ 20) (hb : mn < 2 ∨ ec < 64 ∨ 1048576 < ec) :
    Gives Tryz.prog 18 [.ptr d 0, .int .i64 fi, .int .i64 mn, .int .i64 ec] h (.tup [.nilp, .int .i64 2]) h := by
  refine c18 rfl ?_
  repeat' (first | ((with_reducible apply Nx.mk); conv => whnf) | ((with_reducible first | apply brS_i | apply spB_i) <;> intro c <;> (try exact absurd c (by decide)) <;> (try simp only [decide_eq_true_eq, decide_eq_false_iff_not, beq_iff_eq, bne_iff_ne, Bool.not_eq_true', Bool.not_eq_false', beq_eq_false_iff_ne, Bool.not_true, Bool.not_false, reduceCtorEq, ne_eq, bne_eq_false_iff_eq, Int.not_lt, Int.not_le, Decidable.not_not] at c) <;> (try (exfalso; omega))) | ((with_reducible apply Wr.i); (next => first | exact wrap_i64 (by omega) (by omega) | fail)) | ((with_reducible apply HN.i); (next => first | rfl | fail)) | refine CallS.gives n28 (down_g D) ?_ | with_reducible intro _ | fail)
  all_goals first
    | exact Js.Fin.mk ⟨.rfl _, by (repeat (first | exact Heap.sub_rfl _ | fail))⟩
    | (exfalso; simp_all; done)
theorem dkf_big {h : Heap} {d : Nat} {F : List FG} {a : Arm} (D : Dk h d F a) (fi mn : Nat) : ∀ b ∈ dkf F fi mn, b.length ≤ 1048576 := by
  intro b hb
  simp only [dkf, List.mem_map] at hb
  obtain ⟨i, _, rfl⟩ := hb
  exact D.few _
theorem jopens_c {fs : List (List UInt8)} {g : G} {h : Heap} {first each : Int} (hlen : fs.length ≤ 9223372036854775807) :
    CallW Tryz.prog 4 [.sl 1 (fv fs) g, .int .i64 first, .int .i64 each] h fun r _ => r = .bool true := by
  refine c4 rfl ?_
  have hf := light_g (fs := fs) (g := g) (h := h) hlen
  by_cases ok : lightF fs = true ∧ 0 ≤ first ∧ first ≤ 20
  · obtain ⟨o1, o2, o3⟩ := ok
    obtain ⟨fi, rfl⟩ : ∃ n : Nat, first = n := ⟨first.toNat, by omega⟩
    rw [o1] at hf
    obtain ⟨hl1, hl2⟩ := lightF_yes o1
    replace hl2 := fun b hb => Nat.le_trans (hl2 b hb) (show 3000 ≤ 1048576 by decide)
    have hfl := fa_len hl2
    have hll : (outF fs).2.1.length < 4294967200 := by have := (outF_ok hl1 hl2).2.1; omega
    repeat' (first | ((with_reducible apply Nx.mk); conv => whnf) | ((with_reducible first | apply brS_i | apply spB_i) <;> intro c <;> (try exact absurd c (by decide)) <;> (try simp only [decide_eq_true_eq, decide_eq_false_iff_not, beq_iff_eq, bne_iff_ne, Bool.not_eq_true', Bool.not_eq_false', beq_eq_false_iff_ne, Bool.not_true, Bool.not_false, reduceCtorEq, ne_eq, bne_eq_false_iff_eq, Int.not_lt, Int.not_le, Decidable.not_not] at c) <;> (try (exfalso; omega))) | ((with_reducible apply Nm.i); (next => first | with_reducible exact fv_len _ | fail)) | ((with_reducible apply HN.i); (next => first | rfl | fail)) | refine CallS.gives n10 (hf) ?_ | (refine CallS.by' n16 new_c ?_; rintro r' h1 ⟨d, rfl, hd0, D0, s1⟩) | fail)
    refine loopS (σ := Nat) (fun k => frm 181 [(0, .sl 1 (fv fs) g), (1, .int .i64 fi), (2, .int .i64 each), (7, .ptr d 0), (32, .sl 1 (fv fs) g), (33, .int .i64 fs.length), (34, .int .i64 k)]) (fun _ => []) (fun k => fs.length - k)
      (fun k h' => k ≤ fs.length ∧ ∃ F a, Dk h' d F a ∧ Un a ∧ a.calls ≤ k ∧ (∀ i, i < k → (fg F (fi + i)).b = fa fs i) ∧ (∀ i, k ≤ i → (fg F (fi + i)).b = [])) 0 rfl ⟨by simp, F0, _, D0, ⟨rfl, rfl⟩, Nat.le_refl _, by omega, fun i _ => by rw [fg0]⟩ ?_
    clear D0 s1 hf
    rintro k h2 ⟨k1, F, a, D, u, c1, f1, f2⟩
    (try simp only at k1 c1 ⊢)
    by_cases hk : k < fs.length
    · have hk2 := hfl k
      repeat' (first | ((with_reducible apply Nx.mk); conv => whnf) | ((with_reducible apply RdV.i); (next => first | rfl | fail)) | ((with_reducible first | apply brS_i | apply spB_i) <;> intro c <;> (try exact absurd c (by decide)) <;> (try simp only [decide_eq_true_eq, decide_eq_false_iff_not, beq_iff_eq, bne_iff_ne, Bool.not_eq_true', Bool.not_eq_false', beq_eq_false_iff_ne, Bool.not_true, Bool.not_false, reduceCtorEq, ne_eq, bne_eq_false_iff_eq, Int.not_lt, Int.not_le, Decidable.not_not] at c) <;> (try (exfalso; omega))) | ((with_reducible apply RdE.i); (next => first | with_reducible rfl | fail); (next => first | with_reducible exact fv_at (by omega) | fail)) | ((with_reducible apply Wr.i); (next => first | with_reducible exact wn_addl (by omega) | with_reducible exact wn_add (by omega) | fail)) | (refine CallS.by' n17 (app_c (fa fs k) _ D (by omega) (by omega) (by omega)) ?_; rintro r' h3 ⟨g3, rfl, D3, _⟩) | fail)
      have hF : fi + k < F.length := by rw [D.len]; omega
      have e := app_un (fi + k) (fa fs k) g3 u (by rw [f2 k (Nat.le_refl _)]; simp only [List.length_nil]; omega)
      rw [e] at D3
      refine Js.Fin.mk ⟨k + 1, rfl, ⟨by omega, _, _, D3, u.blow.2, by rw [blow_calls]; omega, fun i hi => ?_, fun i hi => ?_⟩, by omega⟩
      · rw [fg_set hF]
        by_cases q : i = k
        · subst q; rw [if_pos rfl, f2 i (Nat.le_refl _)]; rfl
        · rw [if_neg (by omega)]; exact f1 i (by omega)
      · rw [fg_ne (by omega)]; exact f2 i (by omega)
    · obtain rfl : k = fs.length := by omega
      have hdk := dkf_eq (F := F) (fs := fs) (fi := fi) f1
      by_cases hg : fs.length < 2 ∨ each < 64 ∨ 1048576 < each
      · repeat' (first | ((with_reducible apply Nx.mk); conv => whnf) | ((with_reducible first | apply brS_i | apply spB_i) <;> intro c <;> (try exact absurd c (by decide)) <;> (try simp only [decide_eq_true_eq, decide_eq_false_iff_not, beq_iff_eq, bne_iff_ne, Bool.not_eq_true', Bool.not_eq_false', beq_eq_false_iff_ne, Bool.not_true, Bool.not_false, reduceCtorEq, ne_eq, bne_eq_false_iff_eq, Int.not_lt, Int.not_le, Decidable.not_not] at c) <;> (try (exfalso; omega))) | ((with_reducible apply Nm.i); (next => first | with_reducible exact fv_len _ | fail)) | ((with_reducible apply HN.i); (next => first | rfl | fail)) | refine CallS.gives n18 (open_bad D u.2 hl1 (by omega) hg) ?_ | (refine CallS.by' n11 (lives_c _) ?_; rintro r' h' rfl) | with_reducible intro _ | fail)
        all_goals first | exact Js.Fin.mk rfl | (exfalso; simp_all; done)
      · obtain ⟨ec, rfl⟩ : ∃ n : Nat, each = n := ⟨each.toNat, by omega⟩
        have oc := open_c (fi := fi) (mn := fs.length) (ec := ec) D u.2 hl1 (by omega) (by omega) (by omega) (by omega) (by omega)
        have ox := fun g => open_x (g := g) (F := F) (a := a) (fi := fi) (mn := fs.length) (E := (outF fs).1) (L := (outF fs).2.1) u D.len D.syn (by omega) hl1 (by omega)
        rw [hdk] at oc ox
        repeat' (first | ((with_reducible apply Nx.mk); conv => whnf) | ((with_reducible first | apply brS_i | apply spB_i) <;> intro c <;> (try exact absurd c (by decide)) <;> (try simp only [decide_eq_true_eq, decide_eq_false_iff_not, beq_iff_eq, bne_iff_ne, Bool.not_eq_true', Bool.not_eq_false', beq_eq_false_iff_ne, Bool.not_true, Bool.not_false, reduceCtorEq, ne_eq, bne_eq_false_iff_eq, Int.not_lt, Int.not_le, Decidable.not_not] at c) <;> (try (exfalso; omega))) | ((with_reducible apply Nm.i); (next => first | with_reducible exact fv_len _ | fail)) | ((with_reducible apply HN.i); (next => first | rfl | fail)) | (refine CallS.by' n18 oc ?_; rintro r' h3 (⟨he, rfl, D3⟩ | ⟨he, j, g3, gl, sv, rfl, J3⟩); all_goals (try (obtain ⟨x1, x2, x3, x4, x5⟩ := ox g3 (by rw [← he]); rw [if_neg (by rw [x1]; decide)]))) | (refine CallS.by' n13 (rscan_c (fs := fs) hl1 hl2) ?_; rintro r' h4 ⟨s4, gb4, g4, n4, rfl, _⟩; try (have J4 := J3.sub s4)) | refine CallS.gives n19 (floor_g J4) ?_ | refine CallS.gives n20 (files_g J4.dk (by omega)) ?_ | (refine CallS.by' n13 (rscan_c (fs := dkf (openO F a fi fs.length g3).1.F fi fs.length) (by rw [dkf_len]; exact hl1) (dkf_big J4.dk _ _)) ?_; rintro r' h5 ⟨s5, gb5, g5, n5, rfl, n5e⟩; have J5 := J4.sub s5; have n5e := n5e (by rw [x2]); rw [x2]) | (refine CallS.by' n11 (lives_c _) ?_; rintro r' h' rfl) | with_reducible apply And.intro | exact trivial | with_reducible intro _ | fail)
        all_goals try first | exact Js.Fin.mk rfl | (exfalso; exact absurd trivial (by assumption))
        refine loopS (σ := Nat) (fun k => frm 181 [(1, .int .i64 fi), (7, .ptr d 0), (10, .ptr j 0), (11, .int .i64 0), (12, .lp 12 0), (14, .int .u64 (outF fs).1.ix), (15, .int .u64 (outF fs).1.tm), (16, .lp 16 0), (17, .int .i64 0), (115, .int .i64 fs.length), (116, .int .i64 k)])
          (fun _ => [(12, [.int .u64 (outF fs).1.ix, .int .u64 (outF fs).1.tm, .sl 1 [] gb4, .sl 3 (es (outF fs).2.1) g4, .int .i64 n4]), (16, [.int .u64 (outF fs).1.ix, .int .u64 (outF fs).1.tm, .sl 1 [] gb5, .sl 3 (es (outF fs).2.1) g5, .int .i64 n5])]) (fun k => fs.length - k)
          (fun k h' => k ≤ fs.length ∧ h5.Sub h') 0 rfl ⟨by simp, Heap.sub_rfl _⟩ ?_
        rintro k h6 ⟨k1, k2⟩
        (try simp only at k1 k2 ⊢)
        have J6 := J5.sub k2
        by_cases hk : k < fs.length
        · repeat' (first | ((with_reducible apply Nx.mk); conv => whnf) | ((with_reducible first | apply brS_i | apply spB_i) <;> intro c <;> (try exact absurd c (by decide)) <;> (try simp only [decide_eq_true_eq, decide_eq_false_iff_not, beq_iff_eq, bne_iff_ne, Bool.not_eq_true', Bool.not_eq_false', beq_eq_false_iff_ne, Bool.not_true, Bool.not_false, reduceCtorEq, ne_eq, bne_eq_false_iff_eq, Int.not_lt, Int.not_le, Decidable.not_not] at c) <;> (try (exfalso; omega))) | ((with_reducible apply Wr.i); (next => first | with_reducible exact wn_addl (by omega) | with_reducible exact wn_add (by omega) | fail)) | ((with_reducible apply HN.i); (next => first | rfl | fail)) | refine CallS.gives n21 (synced_g J6.dk (by omega)) ?_ | refine CallS.gives n22 (size_g J6.dk (by omega)) ?_ | fail)
          · exact absurd (by rw [x4 k hk]) c
          · exact Js.Fin.mk ⟨k + 1, rfl, ⟨by omega, k2⟩, by omega⟩
        · repeat' (first | ((with_reducible apply Nx.mk); conv => whnf) | ((with_reducible apply RdV.i); (next => first | rfl | fail)) | ((with_reducible first | apply brS_i | apply spB_i) <;> intro c <;> (try exact absurd c (by decide)) <;> (try simp only [decide_eq_true_eq, decide_eq_false_iff_not, beq_iff_eq, bne_iff_ne, Bool.not_eq_true', Bool.not_eq_false', beq_eq_false_iff_ne, Bool.not_true, Bool.not_false, reduceCtorEq, ne_eq, bne_eq_false_iff_eq, Int.not_lt, Int.not_le, Decidable.not_not] at c) <;> (try (exfalso; omega))) | ((with_reducible apply HN.i); (next => first | rfl | fail)) | ((with_reducible apply Plan.i); (next => kernel_rfl); (next => kernel_rfl)) | refine CallS.gives n15 (plain_g hll) ?_ | refine CallS.gives n23 (entries_g J6 hll (outF_bd fs)) ?_ | refine CallS.gives n14 (same_g hll) ?_ | (refine CallS.by' n11 (lives_c _) ?_; rintro r' h' rfl) | with_reducible apply And.intro | exact EqV.mk rfl | with_reducible intro _ | fail)
          all_goals try first | exact Js.Fin.mk rfl | (exfalso; exact absurd trivial (by assumption))
          exact absurd n5e (by have := List.length_pos_iff.2 x3; omega)
  · repeat' (first | ((with_reducible apply Nx.mk); conv => whnf) | ((with_reducible first | apply brS_i | apply spB_i) <;> intro c <;> (try exact absurd c (by decide)) <;> (try simp only [decide_eq_true_eq, decide_eq_false_iff_not, beq_iff_eq, bne_iff_ne, Bool.not_eq_true', Bool.not_eq_false', beq_eq_false_iff_ne, Bool.not_true, Bool.not_false, reduceCtorEq, ne_eq, bne_eq_false_iff_eq, Int.not_lt, Int.not_le, Decidable.not_not] at c) <;> (try (exfalso; omega))) | ((with_reducible apply Nm.i); (next => first | with_reducible exact fv_len _ | fail)) | ((with_reducible apply HN.i); (next => first | rfl | fail)) | refine CallS.gives n10 (hf) ?_ | (refine CallS.by' n11 (lives_c _) ?_; rintro r' h' rfl) | (refine CallS.by' n16 new_c ?_; rintro r' h1 ⟨d, rfl, hd0, D0, s1⟩) | with_reducible intro _ | fail)
    all_goals first
      | exact Js.Fin.mk rfl
      | (exfalso; exact ok ⟨by assumption, by omega, by omega⟩)
end J
end
