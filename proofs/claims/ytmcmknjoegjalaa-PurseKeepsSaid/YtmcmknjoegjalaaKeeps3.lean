/- Proved here: of Keeps3, that what the Go functions of this part compute is as their contracts say (texts Ct, S80, S78, S77, S79, Cn, Cm, Cl, S69, S81, S70, S68, S56, Ck, Cj, S39), for every input; no condition beyond those that each theorem states. -/
import Derived.Test.YtmcmknjoegjalaaKeeps2
import Derived.KernelRfl
import Derived.Test.YtmcmknjoegjalaaProg
set_option linter.all false
section
open Go Go.Proofs Jb
set_option linter.unusedSimpArgs false

theorem e55 : enters Try.prog 55 = true := by kernel_rfl
theorem e26 : enters Try.prog 26 = true := by kernel_rfl
theorem e25 : enters Try.prog 25 = true := by kernel_rfl
theorem sum_any {l : List Int} {g : G} (hl : l.length < 1048576) (hr : ∀ n ∈ l, I64 n) {h : Heap} {K : V → Heap → Prop} (m : K (.tup [.int .i64 (sumR l).1, .int .i64 (sumR l).2]) h) : AnyW Try.prog 55 [.sl 1 (col l) g] h K := AnyW.eq e55 (sum_call l g hl hr h) m

/-- An account's purse; the cash of the first accounts, their stock. -/
def purse (t : List Int) (i : Nat) : List Int := (t.drop (i * 6)).take 6
def cashes (t : List Int) (i : Nat) : List Int := (List.range i).map fun k => gi t (k * 6)
def stocks (t : List Int) (i : Nat) : List Int := (List.range i).map fun k => gi t (k * 6 + 1)

theorem purse_len {t : List Int} (ht : t.length = 49) {i : Nat} (hi : i < 8) : (purse t i).length = 6 := by simp [purse, ht]; omega
theorem purse_get (t : List Int) {i j : Nat} (hj : j < 6) : gi (purse t i) j = gi t (i * 6 + j) := by
  rw [purse, gi_take _ hj, gi_drop]
theorem purse_take {t : List Int} {i : Nat} (hi : i < 8) : List.take 6 (List.drop (i * 6) (List.take 48 t)) = purse t i := by
  rw [List.drop_take, List.take_take, purse]; congr 1; omega
theorem wr_purse (l : List Int) (h2 : l.length = 6) : wrCells [.int .i64 0, .int .i64 0, .int .i64 0, .int .i64 0, .int .i64 0, .int .i64 0] 0 (ints l) = ints l := by
  simp [wrCells, h2]
theorem cashes_succ (t : List Int) (i : Nat) : cashes t (i + 1) = cashes t i ++ [gi t (i * 6)] := by simp [cashes, List.range_succ]
theorem stocks_succ (t : List Int) (i : Nat) : stocks t (i + 1) = stocks t i ++ [gi t (i * 6 + 1)] := by simp [stocks, List.range_succ]

def Fits (t : List Int) : Prop := t.length = 49 ∧ ∀ n ∈ t, I64 n
theorem Fits.get {t : List Int} (F : Fits t) (i : Nat) : I64 (gi t i) := by
  by_cases hi : i < t.length
  · exact F.2 _ (gi_mem t hi)
  · rw [gi_none t (Nat.le_of_not_lt hi)]; unfold I64; omega

def totals (t : List Int) : Int × Int × Bool :=
  let c := sumR (gi t 48 :: cashes t 8)
  let s := sumR (stocks t 8)
  (c.1, s.1, decide (c.2 = 0 ∧ s.2 = 0) && (fine1 c.1 && fine1 s.1))

theorem totals_call (t : List Int) (F : Fits t) (h : Heap) : CallW Try.prog 26 [.agg (ints t)] h (fun r h' => r = .tup [.int .i64 (totals t).1, .int .i64 (totals t).2.1, .bool (totals t).2.2] ∧ h' = h) := by
  have ht := F.1
  refine CallW.forget (K := fun r h' => r = .tup [.int .i64 (totals t).1, .int .i64 (totals t).2.1, .bool (totals t).2.2] ∧ h.Sub h') ?_ (fun r h' e => ⟨h, e.2, e.1, rfl⟩)
  refine CallW.body mix f26_cf Try.func26 (by rw [Try.ntmps26]; simp) ?_
  rw [f26_entry, f26_n_wp]
  simp [ht]
  rw [f26_n11_eq, wpA_seq, f26_n110_wp, f26_n11010_eq]
  refine ⟨by simp [ht], ?_⟩
  refine wpA_loopH (σ := Nat × G × G) (fun x => f26_n110100_F (col (gi t 48 :: cashes t x.1)) x.2.1 (col (stocks t x.1)) x.2.2 (ints (t.take 48)) x.1) (fun x => 8 - x.1)
    (fun x h' => x.1 ≤ 8 ∧ h.Sub h' ∧ Can x.2.1 1 (x.1 + 1) h' ∧ Can x.2.2 1 x.1 h' ∧ (∀ l o, h l = some o → x.2.1 ≠ .own l ∧ x.2.2 ≠ .own l) ∧ ∀ s, x.2.1 = .own s → x.2.2 ≠ .own s) (0, .full, .full)
    ?_ ⟨by simp, Heap.sub_rfl h, .inl rfl, .inl rfl, fun _ _ _ => ⟨by simp, by simp⟩, fun s e => by cases e⟩ ?_
  · simp [f26_n110100_F, cashes, stocks, ints_take, ht]
  rintro ⟨i, g1, g2⟩ h1 ⟨hi, hs, c1, c2, a0, a1⟩
  simp only at hi c1 c2 a0 a1
  simp only [f26_n110100_F]
  rw [f26_n110100_wp]
  by_cases hlt : i < 8
  · have hw : IntKind.i64.wrap ((i : Int) + 1) = ((i + 1 : Nat) : Int) := by rw [Go.IntWalk.i64_in] <;> omega
    have hp := purse_len ht hlt
    have q0 := purse_get t (i := i) (j := 0) (by omega)
    have q1 := purse_get t (i := i) (j := 1) (by omega)
    simp only [show ((i : Int) < 8) from by omega, decide_true, brW_true, Int.toNat_natCast, ints_drop, ints_take, purse_take hlt, ints_len, hp, wr_purse (purse t i) hp, ints_num, ints_isInt, col_len, q0, q1, true_and, and_true]
    have l1 : (cashes t i).length = i := by simp [cashes]
    have l2 : (stocks t i).length = i := by simp [stocks]
    simp only [List.length_cons, l1, l2, mostLen, ht, List.length_take]
    refine ⟨by omega, by omega, by simp, by simp, by omega, ?_⟩
    refine appG_one (m := 0) c1 fun s1 h2 e1 k1 => ⟨by simp, by omega, ?_⟩
    have c2' : Can g2 1 i h2 := by
      rcases c2 with rfl | ⟨s2, rfl, hs2⟩
      · exact .inl rfl
      · exact .inr ⟨s2, rfl, (k1 s2 _ hs2 (fun e => a1 s2 e rfl)).1⟩
    refine appG_one (m := 0) c2' fun s2 h3 e2 k2 => ?_
    have n1 : g2 ≠ .own s1 := by
      rcases c2 with rfl | ⟨s2, rfl, hs2⟩
      · simp
      · have := (k1 s2 _ hs2 (fun e => a1 s2 e rfl)).2
        simpa using this
    have k3 := k2 s1 _ e1 n1
    refine ⟨(i + 1, .own s1, .own s2), ?_, ⟨by omega, fun l o hl => ?_, .inr ⟨s1, rfl, k3.1⟩, .inr ⟨s2, rfl, e2⟩, fun l o hl => ?_, fun s e => ?_⟩, by simp only; omega⟩
    · simp [cashes_succ, stocks_succ, col_append, hw, f26_n110100_F]
    · have := k1 l o (hs l o hl) (a0 l o hl).1
      exact (k2 l o this.1 (a0 l o hl).2).1
    · have x1 := k1 l o (hs l o hl) (a0 l o hl).1
      have x2 := k2 l o x1.1 (a0 l o hl).2
      simp only [ne_eq, G.own.injEq]
      exact ⟨fun e => x1.2 e.symm, fun e => x2.2 e.symm⟩
    · simp only [G.own.injEq] at e
      subst e
      simp only [ne_eq, G.own.injEq]
      exact fun e => k3.2 e.symm
  · obtain rfl : i = 8 := by omega
    simp only [show ¬ (((8 : Nat) : Int) < 8) from by omega, decide_false, brW_false, seqK_exit, blockK_exit, if_true, seqK_normal]
    rw [f26_n111_wp]
    refine sum_any (by simp [cashes]) ?_ ?_
    · intro n hn
      rcases List.mem_cons.1 hn with rfl | hn
      · exact F.get 48
      · obtain ⟨k, _, rfl⟩ := List.mem_map.1 hn; exact F.get _
    simp
    refine sum_any (l := stocks t 8) (by simp [stocks]) ?_ ?_
    · intro n hn
      obtain ⟨k, _, rfl⟩ := List.mem_map.1 hn; exact F.get _
    unfold totals
    generalize sumR (gi t 48 :: cashes t 8) = c
    generalize sumR (stocks t 8) = s
    simp
    rw [f26_n11111_eq, wpA_seq]
    rw [f26_n111110_wp]
    by_cases hc : c.2 = 0 <;> by_cases hs2 : s.2 = 0
    · simp [hc, hs2, beq_dec]
      refine AnyW.eq e24 (fine_call [c.1, s.1] .full (by simp) h1) ?_
      simp [f26_n111111_wp, f26_end1, hs, hc, hs2]
    all_goals simp [hc, hs2, beq_dec, f26_n111111_wp, f26_end1, hs]

theorem totals_any {t : List Int} (F : Fits t) {h : Heap} {K : V → Heap → Prop} (m : K (.tup [.int .i64 (totals t).1, .int .i64 (totals t).2.1, .bool (totals t).2.2]) h) : AnyW Try.prog 26 [.agg (ints t)] h K := AnyW.eq e26 (totals_call t F h) m
theorem good_any {p : List Int} (hp : p.length = 6) {h : Heap} {K : V → Heap → Prop} (m : K (.bool (goodP p)) h) : AnyW Try.prog 25 [.agg (ints p)] h K := AnyW.eq e25 (good_call p hp h) m

theorem Totals_call (t : List Int) (F : Fits t) (h : Heap) : CallW Try.prog 11 [.agg (ints t)] h (fun r h' => r = .tup [.int .i64 (totals t).1, .int .i64 (totals t).2.1] ∧ h' = h) := by
  have ht := F.1
  refine CallW.body mix f11_cf Try.func11 (by rw [Try.ntmps11]; simp) ?_
  rw [f11_entry, f11_n_wp]
  simp [ht, take_all]
  refine totals_any F ?_
  simp [f11_end1]

/-- May a till be? -/
def goodT (t : List Int) : Bool := fine1 (gi t 48) && ((List.range 8).all fun i => goodP (purse t i)) && (totals t).2.2

theorem Good_call (t : List Int) (F : Fits t) (h : Heap) : CallW Try.prog 8 [.agg (ints t)] h (fun r h' => r = .bool (goodT t) ∧ h' = h) := by
  have ht := F.1
  refine CallW.body mix f8_cf Try.func8 (by rw [Try.ntmps8]; simp) ?_
  rw [f8_entry, f8_n_wp]
  simp [ht]
  refine fineL_any ?_
  unfold goodT
  cases h0 : fine1 (gi t 48) with
  | false => simp [f8_end1]
  | true =>
    simp only [isBool_bool, flag_bool, Bool.not_true, brW_false, true_and]
    rw [f8_n11_eq, wpA_seq, f8_n110_wp, f8_n11010_eq]
    refine ⟨by simp [ht], ?_⟩
    refine wpA_loop (σ := Nat) (fun i => f8_n110100_F (ints (t.take 48)) i (ints t)) (fun _ => h) (fun i => 8 - i) (fun i => i ≤ 8 ∧ (List.range i).all (fun i => goodP (purse t i)) = true) 0 (by simp [f8_n110100_F, ints_take]) rfl (by simp) ?_
    rintro i ⟨hi, ha⟩
    simp only [f8_n110100_F]
    rw [f8_n110100_wp]
    by_cases hlt : i < 8
    · have hw : IntKind.i64.wrap ((i : Int) + 1) = ((i + 1 : Nat) : Int) := by rw [Go.IntWalk.i64_in] <;> omega
      have hp := purse_len ht hlt
      simp only [show ((i : Int) < 8) from by omega, decide_true, brW_true, Int.toNat_natCast, ints_drop, ints_take, purse_take hlt, ints_len, hp, wr_purse (purse t i) hp, true_and, and_true, List.length_take, ht, List.drop_zero, List.take_of_length_le (Nat.le_of_eq hp)]
      refine ⟨by omega, by omega, by omega, good_any hp ?_⟩
      cases hg : goodP (purse t i) with
      | true =>
        simp only [isBool_bool, flag_bool, Bool.not_true, brW_false, true_and, seqK_normal, hw]
        exact ⟨i + 1, rfl, ⟨by omega, by rw [List.range_succ, List.all_append, ha]; simp [hg]⟩, by omega⟩
      | false =>
        have : (List.range 8).all (fun i => goodP (purse t i)) = false := by
          rw [List.all_eq_false]; exact ⟨i, by simp [hlt], by simp [hg]⟩
        simp only [isBool_bool, flag_bool, Bool.not_false, brW_true, true_and, seqK_ret, blockK_ret, f8_end1, this]
        simp
    · obtain rfl : i = 8 := by omega
      simp only [show ¬ (((8 : Nat) : Int) < 8) from by omega, decide_false, brW_false, seqK_exit, blockK_exit, if_true, seqK_normal, f8_n111_wp]
      simp [ht, take_all, -List.all_eq_true]
      refine totals_any F ?_
      simp [f8_end1, ha, -List.all_eq_true]
end

section
set_option linter.all false
set_option maxRecDepth 100000
open Go Go.Proofs Jb
def f80_cf : Cfg := ⟨[], [(0, [0, 2]), (2, [4]), (3, [6, 7, 11]), (4, [5, 8, 9, 10]), (5, [1, 3, 11]), (6, [1, 3, 5])]⟩
noncomputable def f80_b : Code := bodyOf Try.f80
noncomputable def f80_n : Code :=  (codeAt [] f80_b)
noncomputable def f80_n1 : Code := hide (codeAt [1] f80_b)
noncomputable def f80_n10 : Code := hide (codeAt [1, 0] f80_b)
noncomputable def f80_n1010 : Code := hide (codeAt [1, 0, 1, 0] f80_b)
noncomputable def f80_n10100 : Code := hide (codeAt [1, 0, 1, 0, 0] f80_b)
noncomputable def f80_n11 : Code := hide (codeAt [1, 1] f80_b)
theorem f80_entry (x : List V) (h : Heap) (K : V → Heap → Prop) : bodyW Try.prog f80_cf Try.f80 [(V.agg x)] h K = wpA Try.prog f80_cf f80_n ⟨[(V.agg x), V.undef, V.undef, V.undef, V.undef, V.undef, V.undef, V.undef, V.undef, V.undef, V.undef, V.undef], []⟩ h (bodyK Try.prog Try.f80 K) := by kernel_rfl
theorem f80_n_plug : f80_n = (plug [1] (codeAt [] f80_b) f80_n1) := by
  simp only [f80_n, f80_n1, hide_eq]
  try kernel_rfl
theorem f80_n_wp (x : List V) (h : Heap) (Q : Ex → Fr → Heap → Prop) : wpA Try.prog f80_cf f80_n ⟨[(V.agg x), V.undef, V.undef, V.undef, V.undef, V.undef, V.undef, V.undef, V.undef, V.undef, V.undef, V.undef], []⟩ h Q =
 (((List.length x) = 137) ∧ (wpA Try.prog f80_cf f80_n1 ⟨[V.undef, (V.lp 1 0), V.undef, V.undef, V.undef, V.undef, V.undef, V.undef, V.undef, V.undef, V.undef, V.undef], [(1, x)]⟩ h Q)) := wpA_at f80_n_plug (by kernel_rfl)
theorem f80_n1_eq : f80_n1 = Code.seq f80_n10 f80_n11 := by
  simp only [f80_n1, f80_n10, f80_n11, hide_eq]
  kernel_rfl
theorem f80_n10_plug : f80_n10 = (plug [1, 0] (codeAt [1, 0] f80_b) f80_n1010) := by
  simp only [f80_n10, f80_n1010, hide_eq]
  try kernel_rfl
theorem f80_n10_wp (c0 : List V) (h : Heap) (Q : Ex → Fr → Heap → Prop) : wpA Try.prog f80_cf f80_n10 ⟨[V.undef, (V.lp 1 0), V.undef, V.undef, V.undef, V.undef, V.undef, V.undef, V.undef, V.undef, V.undef, V.undef], [(1, c0)]⟩ h Q =
 (wpA Try.prog f80_cf f80_n1010 ⟨[V.undef, (V.lp 1 0), V.undef, (V.int Go.IntKind.i64 (0 : Int)), V.undef, V.undef, V.undef, V.undef, V.undef, V.undef, V.undef, V.undef], [(1, c0)]⟩ h (blockK 0 Q)) := wpA_at f80_n10_plug (by kernel_rfl)
theorem f80_n1010_eq : f80_n1010 = Code.loop f80_n10100 := by
  simp only [f80_n1010, f80_n10100, hide_eq]
  kernel_rfl
def f80_n10100_F (x0 : Int) (c1 : List V) : Fr := ⟨[V.undef, (V.lp 1 0), V.undef, (V.int Go.IntKind.i64 x0), V.undef, V.undef, V.undef, V.undef, V.undef, V.undef, V.undef, V.undef], [(1, c1)]⟩
theorem f80_n10100_plug : f80_n10100 = (codeAt [1, 0, 1, 0, 0] f80_b) := by
  simp only [f80_n10100, hide_eq]
  try kernel_rfl
theorem f80_n10100_wp (x0 : Int) (c1 : List V) (h : Heap) (Q : Ex → Fr → Heap → Prop) : wpA Try.prog f80_cf f80_n10100 ⟨[V.undef, (V.lp 1 0), V.undef, (V.int Go.IntKind.i64 x0), V.undef, V.undef, V.undef, V.undef, V.undef, V.undef, V.undef, V.undef], [(1, c1)]⟩ h Q =
 (let bz1 : Bool := (decide (x0 < (136 : Int)));
 (brW bz1
 ((0 ≤ x0 ∧ x0 < 136) ∧ (((0 + ((Int.toNat x0) * 1)) < (List.length c1) ∧ V.isBool (gv c1 (0 + ((Int.toNat x0) * 1))) = true) ∧ (let bz2 : Bool := (V.flag (gv c1 (0 + ((Int.toNat x0) * 1))));
 (brW bz2
 (Q Ex.ret ⟨[V.undef, V.undef, (V.bool false), V.undef, V.undef, V.undef, V.undef, V.undef, V.undef, V.undef, V.undef, V.undef], []⟩ h)
 (let iz3 : Int := (Go.IntKind.wrap Go.IntKind.i64 (x0 + (1 : Int)));
 (Q Ex.normal ⟨[V.undef, (V.lp 1 0), V.undef, (V.int Go.IntKind.i64 iz3), V.undef, V.undef, V.undef, V.undef, V.undef, V.undef, V.undef, V.undef], [(1, c1)]⟩ h))))))
 (Q (Ex.exit 0) ⟨[V.undef, (V.lp 1 0), V.undef, (V.int Go.IntKind.i64 x0), V.undef, (V.bool bz1), V.undef, V.undef, V.undef, V.undef, V.undef, V.undef], [(1, c1)]⟩ h))) := wpA_at f80_n10100_plug (by kernel_rfl)
theorem f80_n11_plug : f80_n11 = (codeAt [1, 1] f80_b) := by
  simp only [f80_n11, hide_eq]
  try kernel_rfl
theorem f80_n11_wp (x0 : Int) (b1 : Bool) (c2 : List V) (h : Heap) (Q : Ex → Fr → Heap → Prop) : wpA Try.prog f80_cf f80_n11 ⟨[V.undef, (V.lp 1 0), V.undef, (V.int Go.IntKind.i64 x0), V.undef, (V.bool b1), V.undef, V.undef, V.undef, V.undef, V.undef, V.undef], [(1, c2)]⟩ h Q =
 (Q Ex.ret ⟨[V.undef, V.undef, (V.bool true), V.undef, V.undef, V.undef, V.undef, V.undef, V.undef, V.undef, V.undef, V.undef], []⟩ h) := wpA_at f80_n11_plug (by kernel_rfl)
theorem f80_end1 (b0 : Bool) (h : Heap) (K : V → Heap → Prop) : bodyK Try.prog Try.f80 K Ex.ret ⟨[V.undef, V.undef, (V.bool b0), V.undef, V.undef, V.undef, V.undef, V.undef, V.undef, V.undef, V.undef, V.undef], []⟩ h = (K (V.bool b0) h) := by kernel_rfl
end

section
set_option linter.all false
set_option maxRecDepth 100000
open Go Go.Proofs Jb
def f78_cf : Cfg := ⟨[], [(0, [0, 1, 4]), (2, [6]), (3, [8, 9, 18]), (4, [7, 10, 11, 12, 13, 14, 15, 16, 17]), (5, [2, 3, 5, 18, 19, 20, 21, 22]), (6, [2, 3, 5, 7])]⟩
noncomputable def f78_b : Code := bodyOf Try.f78
noncomputable def f78_n : Code :=  (codeAt [] f78_b)
noncomputable def f78_n1 : Code := hide (codeAt [1] f78_b)
noncomputable def f78_n10 : Code := hide (codeAt [1, 0] f78_b)
noncomputable def f78_n1010 : Code := hide (codeAt [1, 0, 1, 0] f78_b)
noncomputable def f78_n10100 : Code := hide (codeAt [1, 0, 1, 0, 0] f78_b)
noncomputable def f78_n11 : Code := hide (codeAt [1, 1] f78_b)
theorem f78_entry (x : List V) (y : List V) (h : Heap) (K : V → Heap → Prop) : bodyW Try.prog f78_cf Try.f78 [(V.agg x), (V.agg y)] h K = wpA Try.prog f78_cf f78_n ⟨[(V.agg x), (V.agg y), V.undef, V.undef, V.undef, V.undef, V.undef, V.undef, V.undef, V.undef, V.undef, V.undef, V.undef, V.undef, V.undef, V.undef, V.undef, V.undef, V.undef, V.undef, V.undef, V.undef, V.undef], []⟩ h (bodyK Try.prog Try.f78 K) := by kernel_rfl
theorem f78_n_plug : f78_n = (plug [1] (codeAt [] f78_b) f78_n1) := by
  simp only [f78_n, f78_n1, hide_eq]
  try kernel_rfl
theorem f78_n_wp (x : List V) (y : List V) (h : Heap) (Q : Ex → Fr → Heap → Prop) : wpA Try.prog f78_cf f78_n ⟨[(V.agg x), (V.agg y), V.undef, V.undef, V.undef, V.undef, V.undef, V.undef, V.undef, V.undef, V.undef, V.undef, V.undef, V.undef, V.undef, V.undef, V.undef, V.undef, V.undef, V.undef, V.undef, V.undef, V.undef], []⟩ h Q =
 (((List.length x) = 137) ∧ (((List.length y) = 137) ∧ (wpA Try.prog f78_cf f78_n1 ⟨[V.undef, V.undef, (V.lp 2 0), (V.lp 3 0), V.undef, V.undef, V.undef, V.undef, V.undef, V.undef, V.undef, V.undef, V.undef, V.undef, V.undef, V.undef, V.undef, V.undef, V.undef, V.undef, V.undef, V.undef, V.undef], [(2, x), (3, y)]⟩ h Q))) := wpA_at f78_n_plug (by kernel_rfl)
theorem f78_n1_eq : f78_n1 = Code.seq f78_n10 f78_n11 := by
  simp only [f78_n1, f78_n10, f78_n11, hide_eq]
  kernel_rfl
theorem f78_n10_plug : f78_n10 = (plug [1, 0] (codeAt [1, 0] f78_b) f78_n1010) := by
  simp only [f78_n10, f78_n1010, hide_eq]
  try kernel_rfl
theorem f78_n10_wp (c0 : List V) (c1 : List V) (h : Heap) (Q : Ex → Fr → Heap → Prop) : wpA Try.prog f78_cf f78_n10 ⟨[V.undef, V.undef, (V.lp 2 0), (V.lp 3 0), V.undef, V.undef, V.undef, V.undef, V.undef, V.undef, V.undef, V.undef, V.undef, V.undef, V.undef, V.undef, V.undef, V.undef, V.undef, V.undef, V.undef, V.undef, V.undef], [(2, c0), (3, c1)]⟩ h Q =
 (wpA Try.prog f78_cf f78_n1010 ⟨[V.undef, V.undef, (V.lp 2 0), (V.lp 3 0), V.undef, (V.int Go.IntKind.i64 (135 : Int)), V.undef, V.undef, V.undef, V.undef, V.undef, V.undef, V.undef, V.undef, V.undef, V.undef, V.undef, V.undef, V.undef, V.undef, V.undef, V.undef, V.undef], [(2, c0), (3, c1)]⟩ h (blockK 0 Q)) := wpA_at f78_n10_plug (by kernel_rfl)
theorem f78_n1010_eq : f78_n1010 = Code.loop f78_n10100 := by
  simp only [f78_n1010, f78_n10100, hide_eq]
  kernel_rfl
def f78_n10100_F (x0 : Int) (c1 : List V) (c2 : List V) : Fr := ⟨[V.undef, V.undef, (V.lp 2 0), (V.lp 3 0), V.undef, (V.int Go.IntKind.i64 x0), V.undef, V.undef, V.undef, V.undef, V.undef, V.undef, V.undef, V.undef, V.undef, V.undef, V.undef, V.undef, V.undef, V.undef, V.undef, V.undef, V.undef], [(2, c1), (3, c2)]⟩
theorem f78_n10100_plug : f78_n10100 = (codeAt [1, 0, 1, 0, 0] f78_b) := by
  simp only [f78_n10100, hide_eq]
  try kernel_rfl
theorem f78_n10100_wp (x0 : Int) (c1 : List V) (c2 : List V) (h : Heap) (Q : Ex → Fr → Heap → Prop) : wpA Try.prog f78_cf f78_n10100 ⟨[V.undef, V.undef, (V.lp 2 0), (V.lp 3 0), V.undef, (V.int Go.IntKind.i64 x0), V.undef, V.undef, V.undef, V.undef, V.undef, V.undef, V.undef, V.undef, V.undef, V.undef, V.undef, V.undef, V.undef, V.undef, V.undef, V.undef, V.undef], [(2, c1), (3, c2)]⟩ h Q =
 (let bz1 : Bool := (decide ((0 : Int) ≤ x0));
 (brW bz1
 ((0 ≤ x0 ∧ x0 < 136) ∧ (((0 + ((Int.toNat x0) * 1)) < (List.length c1) ∧ V.isBool (gv c1 (0 + ((Int.toNat x0) * 1))) = true) ∧ (let bz2 : Bool := (V.flag (gv c1 (0 + ((Int.toNat x0) * 1))));
 ((0 ≤ x0 ∧ x0 < 136) ∧ (((0 + ((Int.toNat x0) * 1)) < (List.length c2) ∧ V.isBool (gv c2 (0 + ((Int.toNat x0) * 1))) = true) ∧ (let bz3 : Bool := (V.flag (gv c2 (0 + ((Int.toNat x0) * 1))));
 (brW (!(bz2 == bz3))
 ((0 ≤ x0 ∧ x0 < 136) ∧ (((0 + ((Int.toNat x0) * 1)) < (List.length c2) ∧ V.isBool (gv c2 (0 + ((Int.toNat x0) * 1))) = true) ∧ (let bz4 : Bool := (V.flag (gv c2 (0 + ((Int.toNat x0) * 1))));
 (Q Ex.ret ⟨[V.undef, V.undef, V.undef, V.undef, (V.bool bz4), V.undef, V.undef, V.undef, V.undef, V.undef, V.undef, V.undef, V.undef, V.undef, V.undef, V.undef, V.undef, V.undef, V.undef, V.undef, V.undef, V.undef, V.undef], []⟩ h))))
 (let iz5 : Int := (Go.IntKind.wrap Go.IntKind.i64 (x0 - (1 : Int)));
 (Q Ex.normal ⟨[V.undef, V.undef, (V.lp 2 0), (V.lp 3 0), V.undef, (V.int Go.IntKind.i64 iz5), V.undef, V.undef, V.undef, V.undef, V.undef, V.undef, V.undef, V.undef, V.undef, V.undef, V.undef, V.undef, V.undef, V.undef, V.undef, V.undef, V.undef], [(2, c1), (3, c2)]⟩ h)))))))))
 (Q (Ex.exit 0) ⟨[V.undef, V.undef, (V.lp 2 0), (V.lp 3 0), V.undef, (V.int Go.IntKind.i64 x0), V.undef, (V.bool bz1), V.undef, V.undef, V.undef, V.undef, V.undef, V.undef, V.undef, V.undef, V.undef, V.undef, V.undef, V.undef, V.undef, V.undef, V.undef], [(2, c1), (3, c2)]⟩ h))) := wpA_at f78_n10100_plug (by kernel_rfl)
theorem f78_n11_plug : f78_n11 = (codeAt [1, 1] f78_b) := by
  simp only [f78_n11, hide_eq]
  try kernel_rfl
theorem f78_n11_wp (x0 : Int) (b1 : Bool) (c2 : List V) (c3 : List V) (h : Heap) (Q : Ex → Fr → Heap → Prop) : wpA Try.prog f78_cf f78_n11 ⟨[V.undef, V.undef, (V.lp 2 0), (V.lp 3 0), V.undef, (V.int Go.IntKind.i64 x0), V.undef, (V.bool b1), V.undef, V.undef, V.undef, V.undef, V.undef, V.undef, V.undef, V.undef, V.undef, V.undef, V.undef, V.undef, V.undef, V.undef, V.undef], [(2, c2), (3, c3)]⟩ h Q =
 (Q Ex.ret ⟨[V.undef, V.undef, V.undef, V.undef, (V.bool false), V.undef, V.undef, V.undef, V.undef, V.undef, V.undef, V.undef, V.undef, V.undef, V.undef, V.undef, V.undef, V.undef, V.undef, V.undef, V.undef, V.undef, V.undef], []⟩ h) := wpA_at f78_n11_plug (by kernel_rfl)
theorem f78_end1 (b0 : Bool) (h : Heap) (K : V → Heap → Prop) : bodyK Try.prog Try.f78 K Ex.ret ⟨[V.undef, V.undef, V.undef, V.undef, (V.bool b0), V.undef, V.undef, V.undef, V.undef, V.undef, V.undef, V.undef, V.undef, V.undef, V.undef, V.undef, V.undef, V.undef, V.undef, V.undef, V.undef, V.undef, V.undef], []⟩ h = (K (V.bool b0) h) := by kernel_rfl
end

section
set_option linter.all false
set_option maxRecDepth 100000
open Go Go.Proofs Jb
def f77_cf : Cfg := ⟨[], [(0, [0, 1]), (4, [9]), (5, [11, 12]), (6, [10]), (7, [13, 14, 15]), (8, [16, 17, 18]), (9, [16, 19, 20, 21]), (10, [22, 23, 24]), (11, [6, 22]), (12, [25, 26, 27]), (13, [25, 28, 29, 30, 31, 32, 33]), (14, [8, 34, 35]), (15, [2, 3, 5, 6, 7, 10, 36])]⟩
noncomputable def f77_b : Code := bodyOf Try.f77
noncomputable def f77_n : Code :=  (codeAt [] f77_b)
noncomputable def f77_n111 : Code := hide (codeAt [1, 1, 1] f77_b)
noncomputable def f77_n1110 : Code := hide (codeAt [1, 1, 1, 0] f77_b)
noncomputable def f77_n111010 : Code := hide (codeAt [1, 1, 1, 0, 1, 0] f77_b)
noncomputable def f77_n1110100 : Code := hide (codeAt [1, 1, 1, 0, 1, 0, 0] f77_b)
noncomputable def f77_n11101001 : Code := hide (codeAt [1, 1, 1, 0, 1, 0, 0, 1] f77_b)
noncomputable def f77_n1111 : Code := hide (codeAt [1, 1, 1, 1] f77_b)
noncomputable def f77_n111010010 : Code := hide (codeAt [1, 1, 1, 0, 1, 0, 0, 1, 0] f77_b)
noncomputable def f77_n11101001001 : Code := hide (codeAt [1, 1, 1, 0, 1, 0, 0, 1, 0, 0, 1] f77_b)
noncomputable def f77_n111010010010 : Code := hide (codeAt [1, 1, 1, 0, 1, 0, 0, 1, 0, 0, 1, 0] f77_b)
noncomputable def f77_n111010010011 : Code := hide (codeAt [1, 1, 1, 0, 1, 0, 0, 1, 0, 0, 1, 1] f77_b)
noncomputable def f77_n1110100100110 : Code := hide (codeAt [1, 1, 1, 0, 1, 0, 0, 1, 0, 0, 1, 1, 0] f77_b)
noncomputable def f77_n1110100100111 : Code := hide (codeAt [1, 1, 1, 0, 1, 0, 0, 1, 0, 0, 1, 1, 1] f77_b)
noncomputable def f77_n11101001001110 : Code := hide (codeAt [1, 1, 1, 0, 1, 0, 0, 1, 0, 0, 1, 1, 1, 0] f77_b)
noncomputable def f77_n11101001001111 : Code := hide (codeAt [1, 1, 1, 0, 1, 0, 0, 1, 0, 0, 1, 1, 1, 1] f77_b)
noncomputable def f77_n111010011 : Code := hide (codeAt [1, 1, 1, 0, 1, 0, 0, 1, 1] f77_b)
theorem f77_entry (x : List V) (y : List V) (h : Heap) (K : V → Heap → Prop) : bodyW Try.prog f77_cf Try.f77 [(V.agg x), (V.agg y)] h K = wpA Try.prog f77_cf f77_n ⟨[(V.agg x), (V.agg y), V.undef, V.undef, V.undef, V.undef, V.undef, V.undef, V.undef, V.undef, V.undef, V.undef, V.undef, V.undef, V.undef, V.undef, V.undef, V.undef, V.undef, V.undef, V.undef, V.undef, V.undef, V.undef, V.undef, V.undef, V.undef, V.undef, V.undef, V.undef, V.undef, V.undef, V.undef, V.undef, V.undef, V.undef, V.undef], []⟩ h (bodyK Try.prog Try.f77 K) := by kernel_rfl
theorem f77_n_plug : f77_n = (plug [1, 1, 1] (codeAt [] f77_b) f77_n111) := by
  simp only [f77_n, f77_n111, hide_eq]
  try kernel_rfl
theorem f77_n_wp (x : List V) (y : List V) (h : Heap) (Q : Ex → Fr → Heap → Prop) : wpA Try.prog f77_cf f77_n ⟨[(V.agg x), (V.agg y), V.undef, V.undef, V.undef, V.undef, V.undef, V.undef, V.undef, V.undef, V.undef, V.undef, V.undef, V.undef, V.undef, V.undef, V.undef, V.undef, V.undef, V.undef, V.undef, V.undef, V.undef, V.undef, V.undef, V.undef, V.undef, V.undef, V.undef, V.undef, V.undef, V.undef, V.undef, V.undef, V.undef, V.undef, V.undef], []⟩ h Q =
 (((List.length x) = 137) ∧ (((List.length y) = 137) ∧ (True ∧ (True ∧ (wpA Try.prog f77_cf f77_n111 ⟨[V.undef, V.undef, (V.lp 2 0), (V.lp 3 0), (V.lp 4 0), (V.lp 5 0), (V.bool false), V.undef, V.undef, V.undef, V.undef, V.undef, V.undef, V.undef, V.undef, V.undef, V.undef, V.undef, V.undef, V.undef, V.undef, V.undef, V.undef, V.undef, V.undef, V.undef, V.undef, V.undef, V.undef, V.undef, V.undef, V.undef, V.undef, V.undef, V.undef, V.undef, V.undef], [(2, x), (3, y), (4, [(V.bool false), (V.bool false), (V.bool false), (V.bool false), (V.bool false), (V.bool false), (V.bool false), (V.bool false), (V.bool false), (V.bool false), (V.bool false), (V.bool false), (V.bool false), (V.bool false), (V.bool false), (V.bool false), (V.bool false), (V.bool false), (V.bool false), (V.bool false), (V.bool false), (V.bool false), (V.bool false), (V.bool false), (V.bool false), (V.bool false), (V.bool false), (V.bool false), (V.bool false), (V.bool false), (V.bool false), (V.bool false), (V.bool false), (V.bool false), (V.bool false), (V.bool false), (V.bool false), (V.bool false), (V.bool false), (V.bool false), (V.bool false), (V.bool false), (V.bool false), (V.bool false), (V.bool false), (V.bool false), (V.bool false), (V.bool false), (V.bool false), (V.bool false), (V.bool false), (V.bool false), (V.bool false), (V.bool false), (V.bool false), (V.bool false), (V.bool false), (V.bool false), (V.bool false), (V.bool false), (V.bool false), (V.bool false), (V.bool false), (V.bool false), (V.bool false), (V.bool false), (V.bool false), (V.bool false), (V.bool false), (V.bool false), (V.bool false), (V.bool false), (V.bool false), (V.bool false), (V.bool false), (V.bool false), (V.bool false), (V.bool false), (V.bool false), (V.bool false), (V.bool false), (V.bool false), (V.bool false), (V.bool false), (V.bool false), (V.bool false), (V.bool false), (V.bool false), (V.bool false), (V.bool false), (V.bool false), (V.bool false), (V.bool false), (V.bool false), (V.bool false), (V.bool false), (V.bool false), (V.bool false), (V.bool false), (V.bool false), (V.bool false), (V.bool false), (V.bool false), (V.bool false), (V.bool false), (V.bool false), (V.bool false), (V.bool false), (V.bool false), (V.bool false), (V.bool false), (V.bool false), (V.bool false), (V.bool false), (V.bool false), (V.bool false), (V.bool false), (V.bool false), (V.bool false), (V.bool false), (V.bool false), (V.bool false), (V.bool false), (V.bool false), (V.bool false), (V.bool false), (V.bool false), (V.bool false), (V.bool false), (V.bool false), (V.bool false), (V.bool false), (V.bool false), (V.bool false), (V.bool false), (V.bool false), (V.bool false)]), (5, [(V.bool false), (V.bool false), (V.bool false), (V.bool false), (V.bool false), (V.bool false), (V.bool false), (V.bool false), (V.bool false), (V.bool false), (V.bool false), (V.bool false), (V.bool false), (V.bool false), (V.bool false), (V.bool false), (V.bool false), (V.bool false), (V.bool false), (V.bool false), (V.bool false), (V.bool false), (V.bool false), (V.bool false), (V.bool false), (V.bool false), (V.bool false), (V.bool false), (V.bool false), (V.bool false), (V.bool false), (V.bool false), (V.bool false), (V.bool false), (V.bool false), (V.bool false), (V.bool false), (V.bool false), (V.bool false), (V.bool false), (V.bool false), (V.bool false), (V.bool false), (V.bool false), (V.bool false), (V.bool false), (V.bool false), (V.bool false), (V.bool false), (V.bool false), (V.bool false), (V.bool false), (V.bool false), (V.bool false), (V.bool false), (V.bool false), (V.bool false), (V.bool false), (V.bool false), (V.bool false), (V.bool false), (V.bool false), (V.bool false), (V.bool false), (V.bool false), (V.bool false), (V.bool false), (V.bool false), (V.bool false), (V.bool false), (V.bool false), (V.bool false), (V.bool false), (V.bool false), (V.bool false), (V.bool false), (V.bool false), (V.bool false), (V.bool false), (V.bool false), (V.bool false), (V.bool false), (V.bool false), (V.bool false), (V.bool false), (V.bool false), (V.bool false), (V.bool false), (V.bool false), (V.bool false), (V.bool false), (V.bool false), (V.bool false), (V.bool false), (V.bool false), (V.bool false), (V.bool false), (V.bool false), (V.bool false), (V.bool false), (V.bool false), (V.bool false), (V.bool false), (V.bool false), (V.bool false), (V.bool false), (V.bool false), (V.bool false), (V.bool false), (V.bool false), (V.bool false), (V.bool false), (V.bool false), (V.bool false), (V.bool false), (V.bool false), (V.bool false), (V.bool false), (V.bool false), (V.bool false), (V.bool false), (V.bool false), (V.bool false), (V.bool false), (V.bool false), (V.bool false), (V.bool false), (V.bool false), (V.bool false), (V.bool false), (V.bool false), (V.bool false), (V.bool false), (V.bool false), (V.bool false), (V.bool false), (V.bool false)])]⟩ h Q))))) := wpA_at f77_n_plug (by kernel_rfl)
theorem f77_n111_eq : f77_n111 = Code.seq f77_n1110 f77_n1111 := by
  simp only [f77_n111, f77_n1110, f77_n1111, hide_eq]
  kernel_rfl
theorem f77_n1110_plug : f77_n1110 = (plug [1, 0] (codeAt [1, 1, 1, 0] f77_b) f77_n111010) := by
  simp only [f77_n1110, f77_n111010, hide_eq]
  try kernel_rfl
theorem f77_n1110_wp (b0 : Bool) (c1 : List V) (c2 : List V) (c3 : List V) (c4 : List V) (h : Heap) (Q : Ex → Fr → Heap → Prop) : wpA Try.prog f77_cf f77_n1110 ⟨[V.undef, V.undef, (V.lp 2 0), (V.lp 3 0), (V.lp 4 0), (V.lp 5 0), (V.bool b0), V.undef, V.undef, V.undef, V.undef, V.undef, V.undef, V.undef, V.undef, V.undef, V.undef, V.undef, V.undef, V.undef, V.undef, V.undef, V.undef, V.undef, V.undef, V.undef, V.undef, V.undef, V.undef, V.undef, V.undef, V.undef, V.undef, V.undef, V.undef, V.undef, V.undef], [(2, c1), (3, c2), (4, c3), (5, c4)]⟩ h Q =
 (wpA Try.prog f77_cf f77_n111010 ⟨[V.undef, V.undef, (V.lp 2 0), (V.lp 3 0), (V.lp 4 0), (V.lp 5 0), (V.bool b0), (V.int Go.IntKind.i64 (0 : Int)), V.undef, V.undef, V.undef, V.undef, V.undef, V.undef, V.undef, V.undef, V.undef, V.undef, V.undef, V.undef, V.undef, V.undef, V.undef, V.undef, V.undef, V.undef, V.undef, V.undef, V.undef, V.undef, V.undef, V.undef, V.undef, V.undef, V.undef, V.undef, V.undef], [(2, c1), (3, c2), (4, c3), (5, c4)]⟩ h (blockK 0 Q)) := wpA_at f77_n1110_plug (by kernel_rfl)
theorem f77_n111010_eq : f77_n111010 = Code.loop f77_n1110100 := by
  simp only [f77_n111010, f77_n1110100, hide_eq]
  kernel_rfl
def f77_n1110100_F (b0 : Bool) (x1 : Int) (c2 : List V) (c3 : List V) (c4 : List V) (c5 : List V) : Fr := ⟨[V.undef, V.undef, (V.lp 2 0), (V.lp 3 0), (V.lp 4 0), (V.lp 5 0), (V.bool b0), (V.int Go.IntKind.i64 x1), V.undef, V.undef, V.undef, V.undef, V.undef, V.undef, V.undef, V.undef, V.undef, V.undef, V.undef, V.undef, V.undef, V.undef, V.undef, V.undef, V.undef, V.undef, V.undef, V.undef, V.undef, V.undef, V.undef, V.undef, V.undef, V.undef, V.undef, V.undef, V.undef], [(2, c2), (3, c3), (4, c4), (5, c5)]⟩
theorem f77_n1110100_plug : f77_n1110100 = (plug [1] (codeAt [1, 1, 1, 0, 1, 0, 0] f77_b) f77_n11101001) := by
  simp only [f77_n1110100, f77_n11101001, hide_eq]
  try kernel_rfl
theorem f77_n1110100_wp (b0 : Bool) (x1 : Int) (c2 : List V) (c3 : List V) (c4 : List V) (c5 : List V) (h : Heap) (Q : Ex → Fr → Heap → Prop) : wpA Try.prog f77_cf f77_n1110100 ⟨[V.undef, V.undef, (V.lp 2 0), (V.lp 3 0), (V.lp 4 0), (V.lp 5 0), (V.bool b0), (V.int Go.IntKind.i64 x1), V.undef, V.undef, V.undef, V.undef, V.undef, V.undef, V.undef, V.undef, V.undef, V.undef, V.undef, V.undef, V.undef, V.undef, V.undef, V.undef, V.undef, V.undef, V.undef, V.undef, V.undef, V.undef, V.undef, V.undef, V.undef, V.undef, V.undef, V.undef, V.undef], [(2, c2), (3, c3), (4, c4), (5, c5)]⟩ h Q =
 (let bz1 : Bool := (decide (x1 < (136 : Int)));
 (brW bz1
 (wpA Try.prog f77_cf f77_n11101001 ⟨[V.undef, V.undef, (V.lp 2 0), (V.lp 3 0), (V.lp 4 0), (V.lp 5 0), (V.bool b0), (V.int Go.IntKind.i64 x1), V.undef, V.undef, (V.bool bz1), V.undef, V.undef, V.undef, V.undef, V.undef, V.undef, V.undef, V.undef, V.undef, V.undef, V.undef, V.undef, V.undef, V.undef, V.undef, V.undef, V.undef, V.undef, V.undef, V.undef, V.undef, V.undef, V.undef, V.undef, V.undef, V.undef], [(2, c2), (3, c3), (4, c4), (5, c5)]⟩ h Q)
 (Q (Ex.exit 0) ⟨[V.undef, V.undef, (V.lp 2 0), (V.lp 3 0), (V.lp 4 0), (V.lp 5 0), (V.bool b0), (V.int Go.IntKind.i64 x1), V.undef, V.undef, (V.bool bz1), V.undef, V.undef, V.undef, V.undef, V.undef, V.undef, V.undef, V.undef, V.undef, V.undef, V.undef, V.undef, V.undef, V.undef, V.undef, V.undef, V.undef, V.undef, V.undef, V.undef, V.undef, V.undef, V.undef, V.undef, V.undef, V.undef], [(2, c2), (3, c3), (4, c4), (5, c5)]⟩ h))) := wpA_at f77_n1110100_plug (by kernel_rfl)
theorem f77_n11101001_eq : f77_n11101001 = Code.seq f77_n111010010 f77_n111010011 := by
  simp only [f77_n11101001, f77_n111010010, f77_n111010011, hide_eq]
  kernel_rfl
theorem f77_n1111_plug : f77_n1111 = (codeAt [1, 1, 1, 1] f77_b) := by
  simp only [f77_n1111, hide_eq]
  try kernel_rfl
theorem f77_n1111_wp (b0 : Bool) (x1 : Int) (b2 : Bool) (c3 : List V) (c4 : List V) (c5 : List V) (c6 : List V) (h : Heap) (Q : Ex → Fr → Heap → Prop) : wpA Try.prog f77_cf f77_n1111 ⟨[V.undef, V.undef, (V.lp 2 0), (V.lp 3 0), (V.lp 4 0), (V.lp 5 0), (V.bool b0), (V.int Go.IntKind.i64 x1), V.undef, V.undef, (V.bool b2), V.undef, V.undef, V.undef, V.undef, V.undef, V.undef, V.undef, V.undef, V.undef, V.undef, V.undef, V.undef, V.undef, V.undef, V.undef, V.undef, V.undef, V.undef, V.undef, V.undef, V.undef, V.undef, V.undef, V.undef, V.undef, V.undef], [(2, c3), (3, c4), (4, c5), (5, c6)]⟩ h Q =
 ((0 + 137 ≤ (List.length c6)) ∧ (let cz2 : List V := (List.take 137 (List.drop 0 c6));
 (((List.length cz2) = 137) ∧ 0 + 137 ≤ (List.length c5) ∧ (Q Ex.ret ⟨[V.undef, V.undef, V.undef, V.undef, (V.lp 4 0), V.undef, V.undef, V.undef, V.undef, V.undef, V.undef, V.undef, V.undef, V.undef, V.undef, V.undef, V.undef, V.undef, V.undef, V.undef, V.undef, V.undef, V.undef, V.undef, V.undef, V.undef, V.undef, V.undef, V.undef, V.undef, V.undef, V.undef, V.undef, V.undef, V.undef, V.undef, V.undef], [(4, (wrCells c5 0 cz2))]⟩ h)))) := wpA_at f77_n1111_plug (by kernel_rfl)
theorem f77_n111010010_plug : f77_n111010010 = (plug [0, 1] (codeAt [1, 1, 1, 0, 1, 0, 0, 1, 0] f77_b) f77_n11101001001) := by
  simp only [f77_n111010010, f77_n11101001001, hide_eq]
  try kernel_rfl
theorem f77_n111010010_wp (b0 : Bool) (x1 : Int) (b2 : Bool) (c3 : List V) (c4 : List V) (c5 : List V) (c6 : List V) (h : Heap) (Q : Ex → Fr → Heap → Prop) : wpA Try.prog f77_cf f77_n111010010 ⟨[V.undef, V.undef, (V.lp 2 0), (V.lp 3 0), (V.lp 4 0), (V.lp 5 0), (V.bool b0), (V.int Go.IntKind.i64 x1), V.undef, V.undef, (V.bool b2), V.undef, V.undef, V.undef, V.undef, V.undef, V.undef, V.undef, V.undef, V.undef, V.undef, V.undef, V.undef, V.undef, V.undef, V.undef, V.undef, V.undef, V.undef, V.undef, V.undef, V.undef, V.undef, V.undef, V.undef, V.undef, V.undef], [(2, c3), (3, c4), (4, c5), (5, c6)]⟩ h Q =
 (wpA Try.prog f77_cf f77_n11101001001 ⟨[V.undef, V.undef, (V.lp 2 0), (V.lp 3 0), (V.lp 4 0), (V.lp 5 0), (V.bool b0), (V.int Go.IntKind.i64 x1), (V.int Go.IntKind.i64 (0 : Int)), V.undef, V.undef, V.undef, V.undef, V.undef, V.undef, V.undef, V.undef, V.undef, V.undef, V.undef, V.undef, V.undef, V.undef, V.undef, V.undef, V.undef, V.undef, V.undef, V.undef, V.undef, V.undef, V.undef, V.undef, V.undef, V.undef, V.undef, V.undef], [(2, c3), (3, c4), (4, c5), (5, c6)]⟩ h (blockK 1 Q)) := wpA_at f77_n111010010_plug (by kernel_rfl)
theorem f77_n11101001001_eq : f77_n11101001001 = Code.seq f77_n111010010010 f77_n111010010011 := by
  simp only [f77_n11101001001, f77_n111010010010, f77_n111010010011, hide_eq]
  kernel_rfl
theorem f77_n111010010010_plug : f77_n111010010010 = (codeAt [1, 1, 1, 0, 1, 0, 0, 1, 0, 0, 1, 0] f77_b) := by
  simp only [f77_n111010010010, hide_eq]
  try kernel_rfl
theorem f77_n111010010010_wp (b0 : Bool) (x1 : Int) (x2 : Int) (c3 : List V) (c4 : List V) (c5 : List V) (c6 : List V) (h : Heap) (Q : Ex → Fr → Heap → Prop) : wpA Try.prog f77_cf f77_n111010010010 ⟨[V.undef, V.undef, (V.lp 2 0), (V.lp 3 0), (V.lp 4 0), (V.lp 5 0), (V.bool b0), (V.int Go.IntKind.i64 x1), (V.int Go.IntKind.i64 x2), V.undef, V.undef, V.undef, V.undef, V.undef, V.undef, V.undef, V.undef, V.undef, V.undef, V.undef, V.undef, V.undef, V.undef, V.undef, V.undef, V.undef, V.undef, V.undef, V.undef, V.undef, V.undef, V.undef, V.undef, V.undef, V.undef, V.undef, V.undef], [(2, c3), (3, c4), (4, c5), (5, c6)]⟩ h Q =
 ((0 ≤ x1 ∧ x1 < 136) ∧ (((0 + ((Int.toNat x1) * 1)) < (List.length c3) ∧ V.isBool (gv c3 (0 + ((Int.toNat x1) * 1))) = true) ∧ (let bz3 : Bool := (V.flag (gv c3 (0 + ((Int.toNat x1) * 1))));
 (brW bz3
 (let iz4 : Int := (Go.IntKind.wrap Go.IntKind.i64 (x2 + (1 : Int)));
 (Q Ex.normal ⟨[V.undef, V.undef, (V.lp 2 0), (V.lp 3 0), (V.lp 4 0), (V.lp 5 0), (V.bool b0), (V.int Go.IntKind.i64 x1), (V.int Go.IntKind.i64 iz4), V.undef, V.undef, V.undef, V.undef, V.undef, V.undef, V.undef, V.undef, V.undef, V.undef, V.undef, V.undef, V.undef, V.undef, V.undef, V.undef, V.undef, V.undef, V.undef, V.undef, V.undef, V.undef, V.undef, V.undef, V.undef, V.undef, V.undef, V.undef], [(2, c3), (3, c4), (4, c5), (5, c6)]⟩ h))
 (Q Ex.normal ⟨[V.undef, V.undef, (V.lp 2 0), (V.lp 3 0), (V.lp 4 0), (V.lp 5 0), (V.bool b0), (V.int Go.IntKind.i64 x1), (V.int Go.IntKind.i64 x2), V.undef, V.undef, V.undef, V.undef, V.undef, V.undef, V.undef, (V.bool bz3), V.undef, V.undef, V.undef, V.undef, V.undef, V.undef, V.undef, V.undef, V.undef, V.undef, V.undef, V.undef, V.undef, V.undef, V.undef, V.undef, V.undef, V.undef, V.undef, V.undef], [(2, c3), (3, c4), (4, c5), (5, c6)]⟩ h))))) := wpA_at f77_n111010010010_plug (by kernel_rfl)
theorem f77_n111010010011_eq : f77_n111010010011 = Code.seq f77_n1110100100110 f77_n1110100100111 := by
  simp only [f77_n111010010011, f77_n1110100100110, f77_n1110100100111, hide_eq]
  kernel_rfl
theorem f77_n1110100100110_plug : f77_n1110100100110 = (codeAt [1, 1, 1, 0, 1, 0, 0, 1, 0, 0, 1, 1, 0] f77_b) := by
  simp only [f77_n1110100100110, hide_eq]
  try kernel_rfl
theorem f77_n1110100100110_wp (b0 : Bool) (x1 : Int) (x2 : Int) (c3 : List V) (c4 : List V) (c5 : List V) (c6 : List V) (h : Heap) (Q : Ex → Fr → Heap → Prop) : wpA Try.prog f77_cf f77_n1110100100110 ⟨[V.undef, V.undef, (V.lp 2 0), (V.lp 3 0), (V.lp 4 0), (V.lp 5 0), (V.bool b0), (V.int Go.IntKind.i64 x1), (V.int Go.IntKind.i64 x2), V.undef, V.undef, V.undef, V.undef, V.undef, V.undef, V.undef, V.undef, V.undef, V.undef, V.undef, V.undef, V.undef, V.undef, V.undef, V.undef, V.undef, V.undef, V.undef, V.undef, V.undef, V.undef, V.undef, V.undef, V.undef, V.undef, V.undef, V.undef], [(2, c3), (3, c4), (4, c5), (5, c6)]⟩ h Q =
 ((0 ≤ x1 ∧ x1 < 136) ∧ (((0 + ((Int.toNat x1) * 1)) < (List.length c4) ∧ V.isBool (gv c4 (0 + ((Int.toNat x1) * 1))) = true) ∧ (let bz5 : Bool := (V.flag (gv c4 (0 + ((Int.toNat x1) * 1))));
 (brW bz5
 (let iz6 : Int := (Go.IntKind.wrap Go.IntKind.i64 (x2 + (1 : Int)));
 (Q Ex.normal ⟨[V.undef, V.undef, (V.lp 2 0), (V.lp 3 0), (V.lp 4 0), (V.lp 5 0), (V.bool b0), (V.int Go.IntKind.i64 x1), (V.int Go.IntKind.i64 iz6), V.undef, V.undef, V.undef, V.undef, V.undef, V.undef, V.undef, V.undef, V.undef, V.undef, V.undef, V.undef, V.undef, V.undef, V.undef, V.undef, V.undef, V.undef, V.undef, V.undef, V.undef, V.undef, V.undef, V.undef, V.undef, V.undef, V.undef, V.undef], [(2, c3), (3, c4), (4, c5), (5, c6)]⟩ h))
 (Q Ex.normal ⟨[V.undef, V.undef, (V.lp 2 0), (V.lp 3 0), (V.lp 4 0), (V.lp 5 0), (V.bool b0), (V.int Go.IntKind.i64 x1), (V.int Go.IntKind.i64 x2), V.undef, V.undef, V.undef, V.undef, V.undef, V.undef, V.undef, V.undef, V.undef, V.undef, V.undef, V.undef, V.undef, (V.bool bz5), V.undef, V.undef, V.undef, V.undef, V.undef, V.undef, V.undef, V.undef, V.undef, V.undef, V.undef, V.undef, V.undef, V.undef], [(2, c3), (3, c4), (4, c5), (5, c6)]⟩ h))))) := wpA_at f77_n1110100100110_plug (by kernel_rfl)
theorem f77_n1110100100110s1_wp (b0 : Bool) (x1 : Int) (x2 : Int) (b3 : Bool) (c4 : List V) (c5 : List V) (c6 : List V) (c7 : List V) (h : Heap) (Q : Ex → Fr → Heap → Prop) : wpA Try.prog f77_cf f77_n1110100100110 ⟨[V.undef, V.undef, (V.lp 2 0), (V.lp 3 0), (V.lp 4 0), (V.lp 5 0), (V.bool b0), (V.int Go.IntKind.i64 x1), (V.int Go.IntKind.i64 x2), V.undef, V.undef, V.undef, V.undef, V.undef, V.undef, V.undef, (V.bool b3), V.undef, V.undef, V.undef, V.undef, V.undef, V.undef, V.undef, V.undef, V.undef, V.undef, V.undef, V.undef, V.undef, V.undef, V.undef, V.undef, V.undef, V.undef, V.undef, V.undef], [(2, c4), (3, c5), (4, c6), (5, c7)]⟩ h Q =
 ((0 ≤ x1 ∧ x1 < 136) ∧ (((0 + ((Int.toNat x1) * 1)) < (List.length c5) ∧ V.isBool (gv c5 (0 + ((Int.toNat x1) * 1))) = true) ∧ (let bz7 : Bool := (V.flag (gv c5 (0 + ((Int.toNat x1) * 1))));
 (brW bz7
 (let iz8 : Int := (Go.IntKind.wrap Go.IntKind.i64 (x2 + (1 : Int)));
 (Q Ex.normal ⟨[V.undef, V.undef, (V.lp 2 0), (V.lp 3 0), (V.lp 4 0), (V.lp 5 0), (V.bool b0), (V.int Go.IntKind.i64 x1), (V.int Go.IntKind.i64 iz8), V.undef, V.undef, V.undef, V.undef, V.undef, V.undef, V.undef, V.undef, V.undef, V.undef, V.undef, V.undef, V.undef, V.undef, V.undef, V.undef, V.undef, V.undef, V.undef, V.undef, V.undef, V.undef, V.undef, V.undef, V.undef, V.undef, V.undef, V.undef], [(2, c4), (3, c5), (4, c6), (5, c7)]⟩ h))
 (Q Ex.normal ⟨[V.undef, V.undef, (V.lp 2 0), (V.lp 3 0), (V.lp 4 0), (V.lp 5 0), (V.bool b0), (V.int Go.IntKind.i64 x1), (V.int Go.IntKind.i64 x2), V.undef, V.undef, V.undef, V.undef, V.undef, V.undef, V.undef, V.undef, V.undef, V.undef, V.undef, V.undef, V.undef, (V.bool bz7), V.undef, V.undef, V.undef, V.undef, V.undef, V.undef, V.undef, V.undef, V.undef, V.undef, V.undef, V.undef, V.undef, V.undef], [(2, c4), (3, c5), (4, c6), (5, c7)]⟩ h))))) := wpA_at f77_n1110100100110_plug (by kernel_rfl)
theorem f77_n1110100100111_eq : f77_n1110100100111 = Code.seq f77_n11101001001110 f77_n11101001001111 := by
  simp only [f77_n1110100100111, f77_n11101001001110, f77_n11101001001111, hide_eq]
  kernel_rfl
theorem f77_n11101001001110_plug : f77_n11101001001110 = (codeAt [1, 1, 1, 0, 1, 0, 0, 1, 0, 0, 1, 1, 1, 0] f77_b) := by
  simp only [f77_n11101001001110, hide_eq]
  try kernel_rfl
theorem f77_n11101001001110_wp (b0 : Bool) (x1 : Int) (x2 : Int) (c3 : List V) (c4 : List V) (c5 : List V) (c6 : List V) (h : Heap) (Q : Ex → Fr → Heap → Prop) : wpA Try.prog f77_cf f77_n11101001001110 ⟨[V.undef, V.undef, (V.lp 2 0), (V.lp 3 0), (V.lp 4 0), (V.lp 5 0), (V.bool b0), (V.int Go.IntKind.i64 x1), (V.int Go.IntKind.i64 x2), V.undef, V.undef, V.undef, V.undef, V.undef, V.undef, V.undef, V.undef, V.undef, V.undef, V.undef, V.undef, V.undef, V.undef, V.undef, V.undef, V.undef, V.undef, V.undef, V.undef, V.undef, V.undef, V.undef, V.undef, V.undef, V.undef, V.undef, V.undef], [(2, c3), (3, c4), (4, c5), (5, c6)]⟩ h Q =
 (brW b0
 (let iz9 : Int := (Go.IntKind.wrap Go.IntKind.i64 (x2 + (1 : Int)));
 (Q Ex.normal ⟨[V.undef, V.undef, (V.lp 2 0), (V.lp 3 0), (V.lp 4 0), (V.lp 5 0), V.undef, (V.int Go.IntKind.i64 x1), (V.int Go.IntKind.i64 iz9), V.undef, V.undef, V.undef, V.undef, V.undef, V.undef, V.undef, V.undef, V.undef, V.undef, V.undef, V.undef, V.undef, V.undef, V.undef, V.undef, V.undef, V.undef, V.undef, V.undef, V.undef, V.undef, V.undef, V.undef, V.undef, V.undef, V.undef, V.undef], [(2, c3), (3, c4), (4, c5), (5, c6)]⟩ h))
 (Q Ex.normal ⟨[V.undef, V.undef, (V.lp 2 0), (V.lp 3 0), (V.lp 4 0), (V.lp 5 0), V.undef, (V.int Go.IntKind.i64 x1), (V.int Go.IntKind.i64 x2), V.undef, V.undef, V.undef, V.undef, V.undef, V.undef, V.undef, V.undef, V.undef, V.undef, V.undef, V.undef, V.undef, V.undef, V.undef, V.undef, (V.bool b0), V.undef, V.undef, V.undef, V.undef, V.undef, V.undef, V.undef, V.undef, V.undef, V.undef, V.undef], [(2, c3), (3, c4), (4, c5), (5, c6)]⟩ h)) := wpA_at f77_n11101001001110_plug (by kernel_rfl)
theorem f77_n11101001001110s1_wp (b0 : Bool) (x1 : Int) (x2 : Int) (b3 : Bool) (c4 : List V) (c5 : List V) (c6 : List V) (c7 : List V) (h : Heap) (Q : Ex → Fr → Heap → Prop) : wpA Try.prog f77_cf f77_n11101001001110 ⟨[V.undef, V.undef, (V.lp 2 0), (V.lp 3 0), (V.lp 4 0), (V.lp 5 0), (V.bool b0), (V.int Go.IntKind.i64 x1), (V.int Go.IntKind.i64 x2), V.undef, V.undef, V.undef, V.undef, V.undef, V.undef, V.undef, V.undef, V.undef, V.undef, V.undef, V.undef, V.undef, (V.bool b3), V.undef, V.undef, V.undef, V.undef, V.undef, V.undef, V.undef, V.undef, V.undef, V.undef, V.undef, V.undef, V.undef, V.undef], [(2, c4), (3, c5), (4, c6), (5, c7)]⟩ h Q =
 (brW b0
 (let iz10 : Int := (Go.IntKind.wrap Go.IntKind.i64 (x2 + (1 : Int)));
 (Q Ex.normal ⟨[V.undef, V.undef, (V.lp 2 0), (V.lp 3 0), (V.lp 4 0), (V.lp 5 0), V.undef, (V.int Go.IntKind.i64 x1), (V.int Go.IntKind.i64 iz10), V.undef, V.undef, V.undef, V.undef, V.undef, V.undef, V.undef, V.undef, V.undef, V.undef, V.undef, V.undef, V.undef, V.undef, V.undef, V.undef, V.undef, V.undef, V.undef, V.undef, V.undef, V.undef, V.undef, V.undef, V.undef, V.undef, V.undef, V.undef], [(2, c4), (3, c5), (4, c6), (5, c7)]⟩ h))
 (Q Ex.normal ⟨[V.undef, V.undef, (V.lp 2 0), (V.lp 3 0), (V.lp 4 0), (V.lp 5 0), V.undef, (V.int Go.IntKind.i64 x1), (V.int Go.IntKind.i64 x2), V.undef, V.undef, V.undef, V.undef, V.undef, V.undef, V.undef, V.undef, V.undef, V.undef, V.undef, V.undef, V.undef, V.undef, V.undef, V.undef, (V.bool b0), V.undef, V.undef, V.undef, V.undef, V.undef, V.undef, V.undef, V.undef, V.undef, V.undef, V.undef], [(2, c4), (3, c5), (4, c6), (5, c7)]⟩ h)) := wpA_at f77_n11101001001110_plug (by kernel_rfl)
theorem f77_n11101001001111_plug : f77_n11101001001111 = (codeAt [1, 1, 1, 0, 1, 0, 0, 1, 0, 0, 1, 1, 1, 1] f77_b) := by
  simp only [f77_n11101001001111, hide_eq]
  try kernel_rfl
theorem f77_n11101001001111_wp (x0 : Int) (x1 : Int) (c2 : List V) (c3 : List V) (c4 : List V) (c5 : List V) (h : Heap) (Q : Ex → Fr → Heap → Prop) : wpA Try.prog f77_cf f77_n11101001001111 ⟨[V.undef, V.undef, (V.lp 2 0), (V.lp 3 0), (V.lp 4 0), (V.lp 5 0), V.undef, (V.int Go.IntKind.i64 x0), (V.int Go.IntKind.i64 x1), V.undef, V.undef, V.undef, V.undef, V.undef, V.undef, V.undef, V.undef, V.undef, V.undef, V.undef, V.undef, V.undef, V.undef, V.undef, V.undef, V.undef, V.undef, V.undef, V.undef, V.undef, V.undef, V.undef, V.undef, V.undef, V.undef, V.undef, V.undef], [(2, c2), (3, c3), (4, c4), (5, c5)]⟩ h Q =
 (((2 : Int) ≠ 0) ∧ (let bz11 : Bool := ((Int.tmod x1 (2 : Int)) == (1 : Int));
 ((0 ≤ x0 ∧ x0 < 136) ∧ (True ∧ (0 + ((Int.toNat x0) * 1)) + 1 ≤ (List.length c5) ∧ (let cz12 : List V := (wrCells c5 (0 + ((Int.toNat x0) * 1)) [(V.bool bz11)]);
 (let bz13 : Bool := (decide ((2 : Int) ≤ x1));
 (Q Ex.normal ⟨[V.undef, V.undef, (V.lp 2 0), (V.lp 3 0), (V.lp 4 0), (V.lp 5 0), (V.bool bz13), (V.int Go.IntKind.i64 x0), V.undef, V.undef, V.undef, V.undef, V.undef, V.undef, V.undef, V.undef, V.undef, V.undef, V.undef, V.undef, V.undef, V.undef, V.undef, V.undef, V.undef, V.undef, V.undef, V.undef, V.undef, V.undef, V.undef, V.undef, V.undef, V.undef, V.undef, V.undef, V.undef], [(2, c2), (3, c3), (4, c4), (5, cz12)]⟩ h))))))) := wpA_at f77_n11101001001111_plug (by kernel_rfl)
theorem f77_n11101001001111s1_wp (x0 : Int) (x1 : Int) (b2 : Bool) (c3 : List V) (c4 : List V) (c5 : List V) (c6 : List V) (h : Heap) (Q : Ex → Fr → Heap → Prop) : wpA Try.prog f77_cf f77_n11101001001111 ⟨[V.undef, V.undef, (V.lp 2 0), (V.lp 3 0), (V.lp 4 0), (V.lp 5 0), V.undef, (V.int Go.IntKind.i64 x0), (V.int Go.IntKind.i64 x1), V.undef, V.undef, V.undef, V.undef, V.undef, V.undef, V.undef, V.undef, V.undef, V.undef, V.undef, V.undef, V.undef, V.undef, V.undef, V.undef, (V.bool b2), V.undef, V.undef, V.undef, V.undef, V.undef, V.undef, V.undef, V.undef, V.undef, V.undef, V.undef], [(2, c3), (3, c4), (4, c5), (5, c6)]⟩ h Q =
 (((2 : Int) ≠ 0) ∧ (let bz14 : Bool := ((Int.tmod x1 (2 : Int)) == (1 : Int));
 ((0 ≤ x0 ∧ x0 < 136) ∧ (True ∧ (0 + ((Int.toNat x0) * 1)) + 1 ≤ (List.length c6) ∧ (let cz15 : List V := (wrCells c6 (0 + ((Int.toNat x0) * 1)) [(V.bool bz14)]);
 (let bz16 : Bool := (decide ((2 : Int) ≤ x1));
 (Q Ex.normal ⟨[V.undef, V.undef, (V.lp 2 0), (V.lp 3 0), (V.lp 4 0), (V.lp 5 0), (V.bool bz16), (V.int Go.IntKind.i64 x0), V.undef, V.undef, V.undef, V.undef, V.undef, V.undef, V.undef, V.undef, V.undef, V.undef, V.undef, V.undef, V.undef, V.undef, V.undef, V.undef, V.undef, V.undef, V.undef, V.undef, V.undef, V.undef, V.undef, V.undef, V.undef, V.undef, V.undef, V.undef, V.undef], [(2, c3), (3, c4), (4, c5), (5, cz15)]⟩ h))))))) := wpA_at f77_n11101001001111_plug (by kernel_rfl)
theorem f77_n111010011_plug : f77_n111010011 = (codeAt [1, 1, 1, 0, 1, 0, 0, 1, 1] f77_b) := by
  simp only [f77_n111010011, hide_eq]
  try kernel_rfl
theorem f77_n111010011_wp (b0 : Bool) (x1 : Int) (c2 : List V) (c3 : List V) (c4 : List V) (c5 : List V) (h : Heap) (Q : Ex → Fr → Heap → Prop) : wpA Try.prog f77_cf f77_n111010011 ⟨[V.undef, V.undef, (V.lp 2 0), (V.lp 3 0), (V.lp 4 0), (V.lp 5 0), (V.bool b0), (V.int Go.IntKind.i64 x1), V.undef, V.undef, V.undef, V.undef, V.undef, V.undef, V.undef, V.undef, V.undef, V.undef, V.undef, V.undef, V.undef, V.undef, V.undef, V.undef, V.undef, V.undef, V.undef, V.undef, V.undef, V.undef, V.undef, V.undef, V.undef, V.undef, V.undef, V.undef, V.undef], [(2, c2), (3, c3), (4, c4), (5, c5)]⟩ h Q =
 (let iz17 : Int := (Go.IntKind.wrap Go.IntKind.i64 (x1 + (1 : Int)));
 (Q Ex.normal ⟨[V.undef, V.undef, (V.lp 2 0), (V.lp 3 0), (V.lp 4 0), (V.lp 5 0), (V.bool b0), (V.int Go.IntKind.i64 iz17), V.undef, V.undef, V.undef, V.undef, V.undef, V.undef, V.undef, V.undef, V.undef, V.undef, V.undef, V.undef, V.undef, V.undef, V.undef, V.undef, V.undef, V.undef, V.undef, V.undef, V.undef, V.undef, V.undef, V.undef, V.undef, V.undef, V.undef, V.undef, V.undef], [(2, c2), (3, c3), (4, c4), (5, c5)]⟩ h)) := wpA_at f77_n111010011_plug (by kernel_rfl)
theorem f77_end1 (c0 : List V) (h : Heap) (K : V → Heap → Prop) : bodyK Try.prog Try.f77 K Ex.ret ⟨[V.undef, V.undef, V.undef, V.undef, (V.lp 4 0), V.undef, V.undef, V.undef, V.undef, V.undef, V.undef, V.undef, V.undef, V.undef, V.undef, V.undef, V.undef, V.undef, V.undef, V.undef, V.undef, V.undef, V.undef, V.undef, V.undef, V.undef, V.undef, V.undef, V.undef, V.undef, V.undef, V.undef, V.undef, V.undef, V.undef, V.undef, V.undef], [(4, c0)]⟩ h = ((0 + 137 ≤ (List.length c0)) ∧ (let cz18 : List V := (List.take 137 (List.drop 0 c0));
 (K (V.agg cz18) h))) := by kernel_rfl
end

section
set_option linter.all false
set_option maxRecDepth 100000
open Go Go.Proofs Jb
def f79_cf : Cfg := ⟨[], [(0, [0, 1]), (4, [9]), (5, [11, 12]), (6, [10]), (7, [13, 14, 15]), (8, [16]), (9, [16, 17, 18, 19]), (10, [20, 21, 22]), (11, [6, 20, 23, 24, 25]), (13, [26]), (14, [6, 27, 28, 29]), (16, [8, 27, 30, 31, 32, 33, 34]), (17, [2, 3, 5, 6, 7, 10, 35])]⟩
noncomputable def f79_b : Code := bodyOf Try.f79
noncomputable def f79_n : Code :=  (codeAt [] f79_b)
noncomputable def f79_n111 : Code := hide (codeAt [1, 1, 1] f79_b)
noncomputable def f79_n1110 : Code := hide (codeAt [1, 1, 1, 0] f79_b)
noncomputable def f79_n111010 : Code := hide (codeAt [1, 1, 1, 0, 1, 0] f79_b)
noncomputable def f79_n1110100 : Code := hide (codeAt [1, 1, 1, 0, 1, 0, 0] f79_b)
noncomputable def f79_n11101001 : Code := hide (codeAt [1, 1, 1, 0, 1, 0, 0, 1] f79_b)
noncomputable def f79_n1111 : Code := hide (codeAt [1, 1, 1, 1] f79_b)
noncomputable def f79_n111010010 : Code := hide (codeAt [1, 1, 1, 0, 1, 0, 0, 1, 0] f79_b)
noncomputable def f79_n11101001001 : Code := hide (codeAt [1, 1, 1, 0, 1, 0, 0, 1, 0, 0, 1] f79_b)
noncomputable def f79_n111010010010 : Code := hide (codeAt [1, 1, 1, 0, 1, 0, 0, 1, 0, 0, 1, 0] f79_b)
noncomputable def f79_n111010010011 : Code := hide (codeAt [1, 1, 1, 0, 1, 0, 0, 1, 0, 0, 1, 1] f79_b)
noncomputable def f79_n1110100100110 : Code := hide (codeAt [1, 1, 1, 0, 1, 0, 0, 1, 0, 0, 1, 1, 0] f79_b)
noncomputable def f79_n1110100100111 : Code := hide (codeAt [1, 1, 1, 0, 1, 0, 0, 1, 0, 0, 1, 1, 1] f79_b)
noncomputable def f79_n111010010011111 : Code := hide (codeAt [1, 1, 1, 0, 1, 0, 0, 1, 0, 0, 1, 1, 1, 1, 1] f79_b)
noncomputable def f79_n1110100100111110 : Code := hide (codeAt [1, 1, 1, 0, 1, 0, 0, 1, 0, 0, 1, 1, 1, 1, 1, 0] f79_b)
noncomputable def f79_n1110100100111111 : Code := hide (codeAt [1, 1, 1, 0, 1, 0, 0, 1, 0, 0, 1, 1, 1, 1, 1, 1] f79_b)
noncomputable def f79_n111010011 : Code := hide (codeAt [1, 1, 1, 0, 1, 0, 0, 1, 1] f79_b)
theorem f79_entry (x : List V) (y : List V) (h : Heap) (K : V → Heap → Prop) : bodyW Try.prog f79_cf Try.f79 [(V.agg x), (V.agg y)] h K = wpA Try.prog f79_cf f79_n ⟨[(V.agg x), (V.agg y), V.undef, V.undef, V.undef, V.undef, V.undef, V.undef, V.undef, V.undef, V.undef, V.undef, V.undef, V.undef, V.undef, V.undef, V.undef, V.undef, V.undef, V.undef, V.undef, V.undef, V.undef, V.undef, V.undef, V.undef, V.undef, V.undef, V.undef, V.undef, V.undef, V.undef, V.undef, V.undef, V.undef, V.undef], []⟩ h (bodyK Try.prog Try.f79 K) := by kernel_rfl
theorem f79_n_plug : f79_n = (plug [1, 1, 1] (codeAt [] f79_b) f79_n111) := by
  simp only [f79_n, f79_n111, hide_eq]
  try kernel_rfl
theorem f79_n_wp (x : List V) (y : List V) (h : Heap) (Q : Ex → Fr → Heap → Prop) : wpA Try.prog f79_cf f79_n ⟨[(V.agg x), (V.agg y), V.undef, V.undef, V.undef, V.undef, V.undef, V.undef, V.undef, V.undef, V.undef, V.undef, V.undef, V.undef, V.undef, V.undef, V.undef, V.undef, V.undef, V.undef, V.undef, V.undef, V.undef, V.undef, V.undef, V.undef, V.undef, V.undef, V.undef, V.undef, V.undef, V.undef, V.undef, V.undef, V.undef, V.undef], []⟩ h Q =
 (((List.length x) = 137) ∧ (((List.length y) = 137) ∧ (True ∧ (True ∧ (wpA Try.prog f79_cf f79_n111 ⟨[V.undef, V.undef, (V.lp 2 0), (V.lp 3 0), (V.lp 4 0), (V.lp 5 0), (V.int Go.IntKind.i64 (0 : Int)), V.undef, V.undef, V.undef, V.undef, V.undef, V.undef, V.undef, V.undef, V.undef, V.undef, V.undef, V.undef, V.undef, V.undef, V.undef, V.undef, V.undef, V.undef, V.undef, V.undef, V.undef, V.undef, V.undef, V.undef, V.undef, V.undef, V.undef, V.undef, V.undef], [(2, x), (3, y), (4, [(V.bool false), (V.bool false), (V.bool false), (V.bool false), (V.bool false), (V.bool false), (V.bool false), (V.bool false), (V.bool false), (V.bool false), (V.bool false), (V.bool false), (V.bool false), (V.bool false), (V.bool false), (V.bool false), (V.bool false), (V.bool false), (V.bool false), (V.bool false), (V.bool false), (V.bool false), (V.bool false), (V.bool false), (V.bool false), (V.bool false), (V.bool false), (V.bool false), (V.bool false), (V.bool false), (V.bool false), (V.bool false), (V.bool false), (V.bool false), (V.bool false), (V.bool false), (V.bool false), (V.bool false), (V.bool false), (V.bool false), (V.bool false), (V.bool false), (V.bool false), (V.bool false), (V.bool false), (V.bool false), (V.bool false), (V.bool false), (V.bool false), (V.bool false), (V.bool false), (V.bool false), (V.bool false), (V.bool false), (V.bool false), (V.bool false), (V.bool false), (V.bool false), (V.bool false), (V.bool false), (V.bool false), (V.bool false), (V.bool false), (V.bool false), (V.bool false), (V.bool false), (V.bool false), (V.bool false), (V.bool false), (V.bool false), (V.bool false), (V.bool false), (V.bool false), (V.bool false), (V.bool false), (V.bool false), (V.bool false), (V.bool false), (V.bool false), (V.bool false), (V.bool false), (V.bool false), (V.bool false), (V.bool false), (V.bool false), (V.bool false), (V.bool false), (V.bool false), (V.bool false), (V.bool false), (V.bool false), (V.bool false), (V.bool false), (V.bool false), (V.bool false), (V.bool false), (V.bool false), (V.bool false), (V.bool false), (V.bool false), (V.bool false), (V.bool false), (V.bool false), (V.bool false), (V.bool false), (V.bool false), (V.bool false), (V.bool false), (V.bool false), (V.bool false), (V.bool false), (V.bool false), (V.bool false), (V.bool false), (V.bool false), (V.bool false), (V.bool false), (V.bool false), (V.bool false), (V.bool false), (V.bool false), (V.bool false), (V.bool false), (V.bool false), (V.bool false), (V.bool false), (V.bool false), (V.bool false), (V.bool false), (V.bool false), (V.bool false), (V.bool false), (V.bool false), (V.bool false), (V.bool false), (V.bool false), (V.bool false)]), (5, [(V.bool false), (V.bool false), (V.bool false), (V.bool false), (V.bool false), (V.bool false), (V.bool false), (V.bool false), (V.bool false), (V.bool false), (V.bool false), (V.bool false), (V.bool false), (V.bool false), (V.bool false), (V.bool false), (V.bool false), (V.bool false), (V.bool false), (V.bool false), (V.bool false), (V.bool false), (V.bool false), (V.bool false), (V.bool false), (V.bool false), (V.bool false), (V.bool false), (V.bool false), (V.bool false), (V.bool false), (V.bool false), (V.bool false), (V.bool false), (V.bool false), (V.bool false), (V.bool false), (V.bool false), (V.bool false), (V.bool false), (V.bool false), (V.bool false), (V.bool false), (V.bool false), (V.bool false), (V.bool false), (V.bool false), (V.bool false), (V.bool false), (V.bool false), (V.bool false), (V.bool false), (V.bool false), (V.bool false), (V.bool false), (V.bool false), (V.bool false), (V.bool false), (V.bool false), (V.bool false), (V.bool false), (V.bool false), (V.bool false), (V.bool false), (V.bool false), (V.bool false), (V.bool false), (V.bool false), (V.bool false), (V.bool false), (V.bool false), (V.bool false), (V.bool false), (V.bool false), (V.bool false), (V.bool false), (V.bool false), (V.bool false), (V.bool false), (V.bool false), (V.bool false), (V.bool false), (V.bool false), (V.bool false), (V.bool false), (V.bool false), (V.bool false), (V.bool false), (V.bool false), (V.bool false), (V.bool false), (V.bool false), (V.bool false), (V.bool false), (V.bool false), (V.bool false), (V.bool false), (V.bool false), (V.bool false), (V.bool false), (V.bool false), (V.bool false), (V.bool false), (V.bool false), (V.bool false), (V.bool false), (V.bool false), (V.bool false), (V.bool false), (V.bool false), (V.bool false), (V.bool false), (V.bool false), (V.bool false), (V.bool false), (V.bool false), (V.bool false), (V.bool false), (V.bool false), (V.bool false), (V.bool false), (V.bool false), (V.bool false), (V.bool false), (V.bool false), (V.bool false), (V.bool false), (V.bool false), (V.bool false), (V.bool false), (V.bool false), (V.bool false), (V.bool false), (V.bool false), (V.bool false), (V.bool false), (V.bool false)])]⟩ h Q))))) := wpA_at f79_n_plug (by kernel_rfl)
theorem f79_n111_eq : f79_n111 = Code.seq f79_n1110 f79_n1111 := by
  simp only [f79_n111, f79_n1110, f79_n1111, hide_eq]
  kernel_rfl
theorem f79_n1110_plug : f79_n1110 = (plug [1, 0] (codeAt [1, 1, 1, 0] f79_b) f79_n111010) := by
  simp only [f79_n1110, f79_n111010, hide_eq]
  try kernel_rfl
theorem f79_n1110_wp (x0 : Int) (c1 : List V) (c2 : List V) (c3 : List V) (c4 : List V) (h : Heap) (Q : Ex → Fr → Heap → Prop) : wpA Try.prog f79_cf f79_n1110 ⟨[V.undef, V.undef, (V.lp 2 0), (V.lp 3 0), (V.lp 4 0), (V.lp 5 0), (V.int Go.IntKind.i64 x0), V.undef, V.undef, V.undef, V.undef, V.undef, V.undef, V.undef, V.undef, V.undef, V.undef, V.undef, V.undef, V.undef, V.undef, V.undef, V.undef, V.undef, V.undef, V.undef, V.undef, V.undef, V.undef, V.undef, V.undef, V.undef, V.undef, V.undef, V.undef, V.undef], [(2, c1), (3, c2), (4, c3), (5, c4)]⟩ h Q =
 (wpA Try.prog f79_cf f79_n111010 ⟨[V.undef, V.undef, (V.lp 2 0), (V.lp 3 0), (V.lp 4 0), (V.lp 5 0), (V.int Go.IntKind.i64 x0), (V.int Go.IntKind.i64 (0 : Int)), V.undef, V.undef, V.undef, V.undef, V.undef, V.undef, V.undef, V.undef, V.undef, V.undef, V.undef, V.undef, V.undef, V.undef, V.undef, V.undef, V.undef, V.undef, V.undef, V.undef, V.undef, V.undef, V.undef, V.undef, V.undef, V.undef, V.undef, V.undef], [(2, c1), (3, c2), (4, c3), (5, c4)]⟩ h (blockK 0 Q)) := wpA_at f79_n1110_plug (by kernel_rfl)
theorem f79_n111010_eq : f79_n111010 = Code.loop f79_n1110100 := by
  simp only [f79_n111010, f79_n1110100, hide_eq]
  kernel_rfl
def f79_n1110100_F (x0 : Int) (x1 : Int) (c2 : List V) (c3 : List V) (c4 : List V) (c5 : List V) : Fr := ⟨[V.undef, V.undef, (V.lp 2 0), (V.lp 3 0), (V.lp 4 0), (V.lp 5 0), (V.int Go.IntKind.i64 x0), (V.int Go.IntKind.i64 x1), V.undef, V.undef, V.undef, V.undef, V.undef, V.undef, V.undef, V.undef, V.undef, V.undef, V.undef, V.undef, V.undef, V.undef, V.undef, V.undef, V.undef, V.undef, V.undef, V.undef, V.undef, V.undef, V.undef, V.undef, V.undef, V.undef, V.undef, V.undef], [(2, c2), (3, c3), (4, c4), (5, c5)]⟩
theorem f79_n1110100_plug : f79_n1110100 = (plug [1] (codeAt [1, 1, 1, 0, 1, 0, 0] f79_b) f79_n11101001) := by
  simp only [f79_n1110100, f79_n11101001, hide_eq]
  try kernel_rfl
theorem f79_n1110100_wp (x0 : Int) (x1 : Int) (c2 : List V) (c3 : List V) (c4 : List V) (c5 : List V) (h : Heap) (Q : Ex → Fr → Heap → Prop) : wpA Try.prog f79_cf f79_n1110100 ⟨[V.undef, V.undef, (V.lp 2 0), (V.lp 3 0), (V.lp 4 0), (V.lp 5 0), (V.int Go.IntKind.i64 x0), (V.int Go.IntKind.i64 x1), V.undef, V.undef, V.undef, V.undef, V.undef, V.undef, V.undef, V.undef, V.undef, V.undef, V.undef, V.undef, V.undef, V.undef, V.undef, V.undef, V.undef, V.undef, V.undef, V.undef, V.undef, V.undef, V.undef, V.undef, V.undef, V.undef, V.undef, V.undef], [(2, c2), (3, c3), (4, c4), (5, c5)]⟩ h Q =
 (let bz1 : Bool := (decide (x1 < (136 : Int)));
 (brW bz1
 (wpA Try.prog f79_cf f79_n11101001 ⟨[V.undef, V.undef, (V.lp 2 0), (V.lp 3 0), (V.lp 4 0), (V.lp 5 0), (V.int Go.IntKind.i64 x0), (V.int Go.IntKind.i64 x1), V.undef, V.undef, (V.bool bz1), V.undef, V.undef, V.undef, V.undef, V.undef, V.undef, V.undef, V.undef, V.undef, V.undef, V.undef, V.undef, V.undef, V.undef, V.undef, V.undef, V.undef, V.undef, V.undef, V.undef, V.undef, V.undef, V.undef, V.undef, V.undef], [(2, c2), (3, c3), (4, c4), (5, c5)]⟩ h Q)
 (Q (Ex.exit 0) ⟨[V.undef, V.undef, (V.lp 2 0), (V.lp 3 0), (V.lp 4 0), (V.lp 5 0), (V.int Go.IntKind.i64 x0), (V.int Go.IntKind.i64 x1), V.undef, V.undef, (V.bool bz1), V.undef, V.undef, V.undef, V.undef, V.undef, V.undef, V.undef, V.undef, V.undef, V.undef, V.undef, V.undef, V.undef, V.undef, V.undef, V.undef, V.undef, V.undef, V.undef, V.undef, V.undef, V.undef, V.undef, V.undef, V.undef], [(2, c2), (3, c3), (4, c4), (5, c5)]⟩ h))) := wpA_at f79_n1110100_plug (by kernel_rfl)
theorem f79_n11101001_eq : f79_n11101001 = Code.seq f79_n111010010 f79_n111010011 := by
  simp only [f79_n11101001, f79_n111010010, f79_n111010011, hide_eq]
  kernel_rfl
theorem f79_n1111_plug : f79_n1111 = (codeAt [1, 1, 1, 1] f79_b) := by
  simp only [f79_n1111, hide_eq]
  try kernel_rfl
theorem f79_n1111_wp (x0 : Int) (x1 : Int) (b2 : Bool) (c3 : List V) (c4 : List V) (c5 : List V) (c6 : List V) (h : Heap) (Q : Ex → Fr → Heap → Prop) : wpA Try.prog f79_cf f79_n1111 ⟨[V.undef, V.undef, (V.lp 2 0), (V.lp 3 0), (V.lp 4 0), (V.lp 5 0), (V.int Go.IntKind.i64 x0), (V.int Go.IntKind.i64 x1), V.undef, V.undef, (V.bool b2), V.undef, V.undef, V.undef, V.undef, V.undef, V.undef, V.undef, V.undef, V.undef, V.undef, V.undef, V.undef, V.undef, V.undef, V.undef, V.undef, V.undef, V.undef, V.undef, V.undef, V.undef, V.undef, V.undef, V.undef, V.undef], [(2, c3), (3, c4), (4, c5), (5, c6)]⟩ h Q =
 ((0 + 137 ≤ (List.length c6)) ∧ (let cz2 : List V := (List.take 137 (List.drop 0 c6));
 (((List.length cz2) = 137) ∧ 0 + 137 ≤ (List.length c5) ∧ (Q Ex.ret ⟨[V.undef, V.undef, V.undef, V.undef, (V.lp 4 0), V.undef, V.undef, V.undef, V.undef, V.undef, V.undef, V.undef, V.undef, V.undef, V.undef, V.undef, V.undef, V.undef, V.undef, V.undef, V.undef, V.undef, V.undef, V.undef, V.undef, V.undef, V.undef, V.undef, V.undef, V.undef, V.undef, V.undef, V.undef, V.undef, V.undef, V.undef], [(4, (wrCells c5 0 cz2))]⟩ h)))) := wpA_at f79_n1111_plug (by kernel_rfl)
theorem f79_n111010010_plug : f79_n111010010 = (plug [0, 1] (codeAt [1, 1, 1, 0, 1, 0, 0, 1, 0] f79_b) f79_n11101001001) := by
  simp only [f79_n111010010, f79_n11101001001, hide_eq]
  try kernel_rfl
theorem f79_n111010010_wp (x0 : Int) (x1 : Int) (b2 : Bool) (c3 : List V) (c4 : List V) (c5 : List V) (c6 : List V) (h : Heap) (Q : Ex → Fr → Heap → Prop) : wpA Try.prog f79_cf f79_n111010010 ⟨[V.undef, V.undef, (V.lp 2 0), (V.lp 3 0), (V.lp 4 0), (V.lp 5 0), (V.int Go.IntKind.i64 x0), (V.int Go.IntKind.i64 x1), V.undef, V.undef, (V.bool b2), V.undef, V.undef, V.undef, V.undef, V.undef, V.undef, V.undef, V.undef, V.undef, V.undef, V.undef, V.undef, V.undef, V.undef, V.undef, V.undef, V.undef, V.undef, V.undef, V.undef, V.undef, V.undef, V.undef, V.undef, V.undef], [(2, c3), (3, c4), (4, c5), (5, c6)]⟩ h Q =
 (wpA Try.prog f79_cf f79_n11101001001 ⟨[V.undef, V.undef, (V.lp 2 0), (V.lp 3 0), (V.lp 4 0), (V.lp 5 0), (V.int Go.IntKind.i64 x0), (V.int Go.IntKind.i64 x1), (V.int Go.IntKind.i64 (0 : Int)), V.undef, V.undef, V.undef, V.undef, V.undef, V.undef, V.undef, V.undef, V.undef, V.undef, V.undef, V.undef, V.undef, V.undef, V.undef, V.undef, V.undef, V.undef, V.undef, V.undef, V.undef, V.undef, V.undef, V.undef, V.undef, V.undef, V.undef], [(2, c3), (3, c4), (4, c5), (5, c6)]⟩ h (blockK 1 Q)) := wpA_at f79_n111010010_plug (by kernel_rfl)
theorem f79_n11101001001_eq : f79_n11101001001 = Code.seq f79_n111010010010 f79_n111010010011 := by
  simp only [f79_n11101001001, f79_n111010010010, f79_n111010010011, hide_eq]
  kernel_rfl
theorem f79_n111010010010_plug : f79_n111010010010 = (codeAt [1, 1, 1, 0, 1, 0, 0, 1, 0, 0, 1, 0] f79_b) := by
  simp only [f79_n111010010010, hide_eq]
  try kernel_rfl
theorem f79_n111010010010_wp (x0 : Int) (x1 : Int) (x2 : Int) (c3 : List V) (c4 : List V) (c5 : List V) (c6 : List V) (h : Heap) (Q : Ex → Fr → Heap → Prop) : wpA Try.prog f79_cf f79_n111010010010 ⟨[V.undef, V.undef, (V.lp 2 0), (V.lp 3 0), (V.lp 4 0), (V.lp 5 0), (V.int Go.IntKind.i64 x0), (V.int Go.IntKind.i64 x1), (V.int Go.IntKind.i64 x2), V.undef, V.undef, V.undef, V.undef, V.undef, V.undef, V.undef, V.undef, V.undef, V.undef, V.undef, V.undef, V.undef, V.undef, V.undef, V.undef, V.undef, V.undef, V.undef, V.undef, V.undef, V.undef, V.undef, V.undef, V.undef, V.undef, V.undef], [(2, c3), (3, c4), (4, c5), (5, c6)]⟩ h Q =
 ((0 ≤ x1 ∧ x1 < 136) ∧ (((0 + ((Int.toNat x1) * 1)) < (List.length c3) ∧ V.isBool (gv c3 (0 + ((Int.toNat x1) * 1))) = true) ∧ (let bz3 : Bool := (V.flag (gv c3 (0 + ((Int.toNat x1) * 1))));
 (brW bz3
 (Q Ex.normal ⟨[V.undef, V.undef, (V.lp 2 0), (V.lp 3 0), (V.lp 4 0), (V.lp 5 0), (V.int Go.IntKind.i64 x0), (V.int Go.IntKind.i64 x1), (V.int Go.IntKind.i64 (1 : Int)), V.undef, V.undef, V.undef, V.undef, V.undef, V.undef, V.undef, V.undef, V.undef, V.undef, V.undef, V.undef, V.undef, V.undef, V.undef, V.undef, V.undef, V.undef, V.undef, V.undef, V.undef, V.undef, V.undef, V.undef, V.undef, V.undef, V.undef], [(2, c3), (3, c4), (4, c5), (5, c6)]⟩ h)
 (Q Ex.normal ⟨[V.undef, V.undef, (V.lp 2 0), (V.lp 3 0), (V.lp 4 0), (V.lp 5 0), (V.int Go.IntKind.i64 x0), (V.int Go.IntKind.i64 x1), (V.int Go.IntKind.i64 x2), V.undef, V.undef, V.undef, V.undef, V.undef, V.undef, V.undef, (V.bool bz3), V.undef, V.undef, V.undef, V.undef, V.undef, V.undef, V.undef, V.undef, V.undef, V.undef, V.undef, V.undef, V.undef, V.undef, V.undef, V.undef, V.undef, V.undef, V.undef], [(2, c3), (3, c4), (4, c5), (5, c6)]⟩ h))))) := wpA_at f79_n111010010010_plug (by kernel_rfl)
theorem f79_n111010010011_eq : f79_n111010010011 = Code.seq f79_n1110100100110 f79_n1110100100111 := by
  simp only [f79_n111010010011, f79_n1110100100110, f79_n1110100100111, hide_eq]
  kernel_rfl
theorem f79_n1110100100110_plug : f79_n1110100100110 = (codeAt [1, 1, 1, 0, 1, 0, 0, 1, 0, 0, 1, 1, 0] f79_b) := by
  simp only [f79_n1110100100110, hide_eq]
  try kernel_rfl
theorem f79_n1110100100110_wp (x0 : Int) (x1 : Int) (x2 : Int) (c3 : List V) (c4 : List V) (c5 : List V) (c6 : List V) (h : Heap) (Q : Ex → Fr → Heap → Prop) : wpA Try.prog f79_cf f79_n1110100100110 ⟨[V.undef, V.undef, (V.lp 2 0), (V.lp 3 0), (V.lp 4 0), (V.lp 5 0), (V.int Go.IntKind.i64 x0), (V.int Go.IntKind.i64 x1), (V.int Go.IntKind.i64 x2), V.undef, V.undef, V.undef, V.undef, V.undef, V.undef, V.undef, V.undef, V.undef, V.undef, V.undef, V.undef, V.undef, V.undef, V.undef, V.undef, V.undef, V.undef, V.undef, V.undef, V.undef, V.undef, V.undef, V.undef, V.undef, V.undef, V.undef], [(2, c3), (3, c4), (4, c5), (5, c6)]⟩ h Q =
 ((0 ≤ x1 ∧ x1 < 136) ∧ (((0 + ((Int.toNat x1) * 1)) < (List.length c4) ∧ V.isBool (gv c4 (0 + ((Int.toNat x1) * 1))) = true) ∧ (let bz4 : Bool := (V.flag (gv c4 (0 + ((Int.toNat x1) * 1))));
 (brW bz4
 (let iz5 : Int := (Go.IntKind.wrap Go.IntKind.i64 (x2 - (1 : Int)));
 (Q Ex.normal ⟨[V.undef, V.undef, (V.lp 2 0), (V.lp 3 0), (V.lp 4 0), (V.lp 5 0), (V.int Go.IntKind.i64 x0), (V.int Go.IntKind.i64 x1), (V.int Go.IntKind.i64 iz5), V.undef, V.undef, V.undef, V.undef, V.undef, V.undef, V.undef, V.undef, V.undef, V.undef, V.undef, V.undef, V.undef, V.undef, V.undef, V.undef, V.undef, V.undef, V.undef, V.undef, V.undef, V.undef, V.undef, V.undef, V.undef, V.undef, V.undef], [(2, c3), (3, c4), (4, c5), (5, c6)]⟩ h))
 (Q Ex.normal ⟨[V.undef, V.undef, (V.lp 2 0), (V.lp 3 0), (V.lp 4 0), (V.lp 5 0), (V.int Go.IntKind.i64 x0), (V.int Go.IntKind.i64 x1), (V.int Go.IntKind.i64 x2), V.undef, V.undef, V.undef, V.undef, V.undef, V.undef, V.undef, V.undef, V.undef, V.undef, V.undef, (V.bool bz4), V.undef, V.undef, V.undef, V.undef, V.undef, V.undef, V.undef, V.undef, V.undef, V.undef, V.undef, V.undef, V.undef, V.undef, V.undef], [(2, c3), (3, c4), (4, c5), (5, c6)]⟩ h))))) := wpA_at f79_n1110100100110_plug (by kernel_rfl)
theorem f79_n1110100100110s1_wp (x0 : Int) (x1 : Int) (x2 : Int) (b3 : Bool) (c4 : List V) (c5 : List V) (c6 : List V) (c7 : List V) (h : Heap) (Q : Ex → Fr → Heap → Prop) : wpA Try.prog f79_cf f79_n1110100100110 ⟨[V.undef, V.undef, (V.lp 2 0), (V.lp 3 0), (V.lp 4 0), (V.lp 5 0), (V.int Go.IntKind.i64 x0), (V.int Go.IntKind.i64 x1), (V.int Go.IntKind.i64 x2), V.undef, V.undef, V.undef, V.undef, V.undef, V.undef, V.undef, (V.bool b3), V.undef, V.undef, V.undef, V.undef, V.undef, V.undef, V.undef, V.undef, V.undef, V.undef, V.undef, V.undef, V.undef, V.undef, V.undef, V.undef, V.undef, V.undef, V.undef], [(2, c4), (3, c5), (4, c6), (5, c7)]⟩ h Q =
 ((0 ≤ x1 ∧ x1 < 136) ∧ (((0 + ((Int.toNat x1) * 1)) < (List.length c5) ∧ V.isBool (gv c5 (0 + ((Int.toNat x1) * 1))) = true) ∧ (let bz6 : Bool := (V.flag (gv c5 (0 + ((Int.toNat x1) * 1))));
 (brW bz6
 (let iz7 : Int := (Go.IntKind.wrap Go.IntKind.i64 (x2 - (1 : Int)));
 (Q Ex.normal ⟨[V.undef, V.undef, (V.lp 2 0), (V.lp 3 0), (V.lp 4 0), (V.lp 5 0), (V.int Go.IntKind.i64 x0), (V.int Go.IntKind.i64 x1), (V.int Go.IntKind.i64 iz7), V.undef, V.undef, V.undef, V.undef, V.undef, V.undef, V.undef, V.undef, V.undef, V.undef, V.undef, V.undef, V.undef, V.undef, V.undef, V.undef, V.undef, V.undef, V.undef, V.undef, V.undef, V.undef, V.undef, V.undef, V.undef, V.undef, V.undef], [(2, c4), (3, c5), (4, c6), (5, c7)]⟩ h))
 (Q Ex.normal ⟨[V.undef, V.undef, (V.lp 2 0), (V.lp 3 0), (V.lp 4 0), (V.lp 5 0), (V.int Go.IntKind.i64 x0), (V.int Go.IntKind.i64 x1), (V.int Go.IntKind.i64 x2), V.undef, V.undef, V.undef, V.undef, V.undef, V.undef, V.undef, V.undef, V.undef, V.undef, V.undef, (V.bool bz6), V.undef, V.undef, V.undef, V.undef, V.undef, V.undef, V.undef, V.undef, V.undef, V.undef, V.undef, V.undef, V.undef, V.undef, V.undef], [(2, c4), (3, c5), (4, c6), (5, c7)]⟩ h))))) := wpA_at f79_n1110100100110_plug (by kernel_rfl)
theorem f79_n1110100100111_plug : f79_n1110100100111 = (plug [1, 1] (codeAt [1, 1, 1, 0, 1, 0, 0, 1, 0, 0, 1, 1, 1] f79_b) f79_n111010010011111) := by
  simp only [f79_n1110100100111, f79_n111010010011111, hide_eq]
  try kernel_rfl
theorem f79_n1110100100111_wp (x0 : Int) (x1 : Int) (x2 : Int) (c3 : List V) (c4 : List V) (c5 : List V) (c6 : List V) (h : Heap) (Q : Ex → Fr → Heap → Prop) : wpA Try.prog f79_cf f79_n1110100100111 ⟨[V.undef, V.undef, (V.lp 2 0), (V.lp 3 0), (V.lp 4 0), (V.lp 5 0), (V.int Go.IntKind.i64 x0), (V.int Go.IntKind.i64 x1), (V.int Go.IntKind.i64 x2), V.undef, V.undef, V.undef, V.undef, V.undef, V.undef, V.undef, V.undef, V.undef, V.undef, V.undef, V.undef, V.undef, V.undef, V.undef, V.undef, V.undef, V.undef, V.undef, V.undef, V.undef, V.undef, V.undef, V.undef, V.undef, V.undef, V.undef], [(2, c3), (3, c4), (4, c5), (5, c6)]⟩ h Q =
 (let iz8 : Int := (Go.IntKind.wrap Go.IntKind.i64 (x2 - x0));
 (wpA Try.prog f79_cf f79_n111010010011111 ⟨[V.undef, V.undef, (V.lp 2 0), (V.lp 3 0), (V.lp 4 0), (V.lp 5 0), (V.int Go.IntKind.i64 (0 : Int)), (V.int Go.IntKind.i64 x1), (V.int Go.IntKind.i64 iz8), V.undef, V.undef, V.undef, V.undef, V.undef, V.undef, V.undef, V.undef, V.undef, V.undef, V.undef, V.undef, V.undef, V.undef, V.undef, V.undef, V.undef, V.undef, V.undef, V.undef, V.undef, V.undef, V.undef, V.undef, V.undef, V.undef, V.undef], [(2, c3), (3, c4), (4, c5), (5, c6)]⟩ h Q)) := wpA_at f79_n1110100100111_plug (by kernel_rfl)
theorem f79_n1110100100111s1_wp (x0 : Int) (x1 : Int) (x2 : Int) (b3 : Bool) (c4 : List V) (c5 : List V) (c6 : List V) (c7 : List V) (h : Heap) (Q : Ex → Fr → Heap → Prop) : wpA Try.prog f79_cf f79_n1110100100111 ⟨[V.undef, V.undef, (V.lp 2 0), (V.lp 3 0), (V.lp 4 0), (V.lp 5 0), (V.int Go.IntKind.i64 x0), (V.int Go.IntKind.i64 x1), (V.int Go.IntKind.i64 x2), V.undef, V.undef, V.undef, V.undef, V.undef, V.undef, V.undef, V.undef, V.undef, V.undef, V.undef, (V.bool b3), V.undef, V.undef, V.undef, V.undef, V.undef, V.undef, V.undef, V.undef, V.undef, V.undef, V.undef, V.undef, V.undef, V.undef, V.undef], [(2, c4), (3, c5), (4, c6), (5, c7)]⟩ h Q =
 (let iz9 : Int := (Go.IntKind.wrap Go.IntKind.i64 (x2 - x0));
 (wpA Try.prog f79_cf f79_n111010010011111 ⟨[V.undef, V.undef, (V.lp 2 0), (V.lp 3 0), (V.lp 4 0), (V.lp 5 0), (V.int Go.IntKind.i64 (0 : Int)), (V.int Go.IntKind.i64 x1), (V.int Go.IntKind.i64 iz9), V.undef, V.undef, V.undef, V.undef, V.undef, V.undef, V.undef, V.undef, V.undef, V.undef, V.undef, V.undef, V.undef, V.undef, V.undef, V.undef, V.undef, V.undef, V.undef, V.undef, V.undef, V.undef, V.undef, V.undef, V.undef, V.undef, V.undef], [(2, c4), (3, c5), (4, c6), (5, c7)]⟩ h Q)) := wpA_at f79_n1110100100111_plug (by kernel_rfl)
theorem f79_n111010010011111_eq : f79_n111010010011111 = Code.seq f79_n1110100100111110 f79_n1110100100111111 := by
  simp only [f79_n111010010011111, f79_n1110100100111110, f79_n1110100100111111, hide_eq]
  kernel_rfl
theorem f79_n1110100100111110_plug : f79_n1110100100111110 = (codeAt [1, 1, 1, 0, 1, 0, 0, 1, 0, 0, 1, 1, 1, 1, 1, 0] f79_b) := by
  simp only [f79_n1110100100111110, hide_eq]
  try kernel_rfl
theorem f79_n1110100100111110_wp (x0 : Int) (x1 : Int) (x2 : Int) (c3 : List V) (c4 : List V) (c5 : List V) (c6 : List V) (h : Heap) (Q : Ex → Fr → Heap → Prop) : wpA Try.prog f79_cf f79_n1110100100111110 ⟨[V.undef, V.undef, (V.lp 2 0), (V.lp 3 0), (V.lp 4 0), (V.lp 5 0), (V.int Go.IntKind.i64 x0), (V.int Go.IntKind.i64 x1), (V.int Go.IntKind.i64 x2), V.undef, V.undef, V.undef, V.undef, V.undef, V.undef, V.undef, V.undef, V.undef, V.undef, V.undef, V.undef, V.undef, V.undef, V.undef, V.undef, V.undef, V.undef, V.undef, V.undef, V.undef, V.undef, V.undef, V.undef, V.undef, V.undef, V.undef], [(2, c3), (3, c4), (4, c5), (5, c6)]⟩ h Q =
 (let bz10 : Bool := (decide (x2 < (0 : Int)));
 (brW bz10
 (let iz11 : Int := (Go.IntKind.wrap Go.IntKind.i64 (x2 + (2 : Int)));
 (Q Ex.normal ⟨[V.undef, V.undef, (V.lp 2 0), (V.lp 3 0), (V.lp 4 0), (V.lp 5 0), (V.int Go.IntKind.i64 (1 : Int)), (V.int Go.IntKind.i64 x1), (V.int Go.IntKind.i64 iz11), V.undef, V.undef, V.undef, V.undef, V.undef, V.undef, V.undef, V.undef, V.undef, V.undef, V.undef, V.undef, V.undef, V.undef, V.undef, V.undef, V.undef, V.undef, V.undef, V.undef, V.undef, V.undef, V.undef, V.undef, V.undef, V.undef, V.undef], [(2, c3), (3, c4), (4, c5), (5, c6)]⟩ h))
 (Q Ex.normal ⟨[V.undef, V.undef, (V.lp 2 0), (V.lp 3 0), (V.lp 4 0), (V.lp 5 0), (V.int Go.IntKind.i64 x0), (V.int Go.IntKind.i64 x1), (V.int Go.IntKind.i64 x2), V.undef, V.undef, V.undef, V.undef, V.undef, V.undef, V.undef, V.undef, V.undef, V.undef, V.undef, V.undef, V.undef, V.undef, V.undef, V.undef, V.undef, V.undef, (V.bool bz10), V.undef, V.undef, V.undef, V.undef, V.undef, V.undef, V.undef, V.undef], [(2, c3), (3, c4), (4, c5), (5, c6)]⟩ h))) := wpA_at f79_n1110100100111110_plug (by kernel_rfl)
theorem f79_n1110100100111111_plug : f79_n1110100100111111 = (codeAt [1, 1, 1, 0, 1, 0, 0, 1, 0, 0, 1, 1, 1, 1, 1, 1] f79_b) := by
  simp only [f79_n1110100100111111, hide_eq]
  try kernel_rfl
theorem f79_n1110100100111111_wp (x0 : Int) (x1 : Int) (x2 : Int) (c3 : List V) (c4 : List V) (c5 : List V) (c6 : List V) (h : Heap) (Q : Ex → Fr → Heap → Prop) : wpA Try.prog f79_cf f79_n1110100100111111 ⟨[V.undef, V.undef, (V.lp 2 0), (V.lp 3 0), (V.lp 4 0), (V.lp 5 0), (V.int Go.IntKind.i64 x0), (V.int Go.IntKind.i64 x1), (V.int Go.IntKind.i64 x2), V.undef, V.undef, V.undef, V.undef, V.undef, V.undef, V.undef, V.undef, V.undef, V.undef, V.undef, V.undef, V.undef, V.undef, V.undef, V.undef, V.undef, V.undef, V.undef, V.undef, V.undef, V.undef, V.undef, V.undef, V.undef, V.undef, V.undef], [(2, c3), (3, c4), (4, c5), (5, c6)]⟩ h Q =
 ((0 ≤ x1 ∧ x1 < 136) ∧ (True ∧ (0 + ((Int.toNat x1) * 1)) + 1 ≤ (List.length c6) ∧ (let cz12 : List V := (wrCells c6 (0 + ((Int.toNat x1) * 1)) [(V.bool (x2 == (1 : Int)))]);
 (Q Ex.normal ⟨[V.undef, V.undef, (V.lp 2 0), (V.lp 3 0), (V.lp 4 0), (V.lp 5 0), (V.int Go.IntKind.i64 x0), (V.int Go.IntKind.i64 x1), V.undef, V.undef, V.undef, V.undef, V.undef, V.undef, V.undef, V.undef, V.undef, V.undef, V.undef, V.undef, V.undef, V.undef, V.undef, V.undef, V.undef, V.undef, V.undef, V.undef, V.undef, V.undef, V.undef, V.undef, V.undef, V.undef, V.undef, V.undef], [(2, c3), (3, c4), (4, c5), (5, cz12)]⟩ h)))) := wpA_at f79_n1110100100111111_plug (by kernel_rfl)
theorem f79_n1110100100111111s1_wp (x0 : Int) (x1 : Int) (x2 : Int) (b3 : Bool) (c4 : List V) (c5 : List V) (c6 : List V) (c7 : List V) (h : Heap) (Q : Ex → Fr → Heap → Prop) : wpA Try.prog f79_cf f79_n1110100100111111 ⟨[V.undef, V.undef, (V.lp 2 0), (V.lp 3 0), (V.lp 4 0), (V.lp 5 0), (V.int Go.IntKind.i64 x0), (V.int Go.IntKind.i64 x1), (V.int Go.IntKind.i64 x2), V.undef, V.undef, V.undef, V.undef, V.undef, V.undef, V.undef, V.undef, V.undef, V.undef, V.undef, V.undef, V.undef, V.undef, V.undef, V.undef, V.undef, V.undef, (V.bool b3), V.undef, V.undef, V.undef, V.undef, V.undef, V.undef, V.undef, V.undef], [(2, c4), (3, c5), (4, c6), (5, c7)]⟩ h Q =
 ((0 ≤ x1 ∧ x1 < 136) ∧ (True ∧ (0 + ((Int.toNat x1) * 1)) + 1 ≤ (List.length c7) ∧ (let cz13 : List V := (wrCells c7 (0 + ((Int.toNat x1) * 1)) [(V.bool (x2 == (1 : Int)))]);
 (Q Ex.normal ⟨[V.undef, V.undef, (V.lp 2 0), (V.lp 3 0), (V.lp 4 0), (V.lp 5 0), (V.int Go.IntKind.i64 x0), (V.int Go.IntKind.i64 x1), V.undef, V.undef, V.undef, V.undef, V.undef, V.undef, V.undef, V.undef, V.undef, V.undef, V.undef, V.undef, V.undef, V.undef, V.undef, V.undef, V.undef, V.undef, V.undef, V.undef, V.undef, V.undef, V.undef, V.undef, V.undef, V.undef, V.undef, V.undef], [(2, c4), (3, c5), (4, c6), (5, cz13)]⟩ h)))) := wpA_at f79_n1110100100111111_plug (by kernel_rfl)
theorem f79_n111010011_plug : f79_n111010011 = (codeAt [1, 1, 1, 0, 1, 0, 0, 1, 1] f79_b) := by
  simp only [f79_n111010011, hide_eq]
  try kernel_rfl
theorem f79_n111010011_wp (x0 : Int) (x1 : Int) (c2 : List V) (c3 : List V) (c4 : List V) (c5 : List V) (h : Heap) (Q : Ex → Fr → Heap → Prop) : wpA Try.prog f79_cf f79_n111010011 ⟨[V.undef, V.undef, (V.lp 2 0), (V.lp 3 0), (V.lp 4 0), (V.lp 5 0), (V.int Go.IntKind.i64 x0), (V.int Go.IntKind.i64 x1), V.undef, V.undef, V.undef, V.undef, V.undef, V.undef, V.undef, V.undef, V.undef, V.undef, V.undef, V.undef, V.undef, V.undef, V.undef, V.undef, V.undef, V.undef, V.undef, V.undef, V.undef, V.undef, V.undef, V.undef, V.undef, V.undef, V.undef, V.undef], [(2, c2), (3, c3), (4, c4), (5, c5)]⟩ h Q =
 (let iz14 : Int := (Go.IntKind.wrap Go.IntKind.i64 (x1 + (1 : Int)));
 (Q Ex.normal ⟨[V.undef, V.undef, (V.lp 2 0), (V.lp 3 0), (V.lp 4 0), (V.lp 5 0), (V.int Go.IntKind.i64 x0), (V.int Go.IntKind.i64 iz14), V.undef, V.undef, V.undef, V.undef, V.undef, V.undef, V.undef, V.undef, V.undef, V.undef, V.undef, V.undef, V.undef, V.undef, V.undef, V.undef, V.undef, V.undef, V.undef, V.undef, V.undef, V.undef, V.undef, V.undef, V.undef, V.undef, V.undef, V.undef], [(2, c2), (3, c3), (4, c4), (5, c5)]⟩ h)) := wpA_at f79_n111010011_plug (by kernel_rfl)
theorem f79_end1 (c0 : List V) (h : Heap) (K : V → Heap → Prop) : bodyK Try.prog Try.f79 K Ex.ret ⟨[V.undef, V.undef, V.undef, V.undef, (V.lp 4 0), V.undef, V.undef, V.undef, V.undef, V.undef, V.undef, V.undef, V.undef, V.undef, V.undef, V.undef, V.undef, V.undef, V.undef, V.undef, V.undef, V.undef, V.undef, V.undef, V.undef, V.undef, V.undef, V.undef, V.undef, V.undef, V.undef, V.undef, V.undef, V.undef, V.undef, V.undef], [(4, c0)]⟩ h = ((0 + 137 ≤ (List.length c0)) ∧ (let cz15 : List V := (List.take 137 (List.drop 0 c0));
 (K (V.agg cz15) h))) := by kernel_rfl
end

section
open Go Go.Proofs Jb
set_option linter.unusedSimpArgs false
set_option maxRecDepth 4000

theorem nilB : [(V.bool false), (V.bool false), (V.bool false), (V.bool false), (V.bool false), (V.bool false), (V.bool false), (V.bool false), (V.bool false), (V.bool false), (V.bool false), (V.bool false), (V.bool false), (V.bool false), (V.bool false), (V.bool false), (V.bool false), (V.bool false), (V.bool false), (V.bool false), (V.bool false), (V.bool false), (V.bool false), (V.bool false), (V.bool false), (V.bool false), (V.bool false), (V.bool false), (V.bool false), (V.bool false), (V.bool false), (V.bool false), (V.bool false), (V.bool false), (V.bool false), (V.bool false), (V.bool false), (V.bool false), (V.bool false), (V.bool false), (V.bool false), (V.bool false), (V.bool false), (V.bool false), (V.bool false), (V.bool false), (V.bool false), (V.bool false), (V.bool false), (V.bool false), (V.bool false), (V.bool false), (V.bool false), (V.bool false), (V.bool false), (V.bool false), (V.bool false), (V.bool false), (V.bool false), (V.bool false), (V.bool false), (V.bool false), (V.bool false), (V.bool false), (V.bool false), (V.bool false), (V.bool false), (V.bool false), (V.bool false), (V.bool false), (V.bool false), (V.bool false), (V.bool false), (V.bool false), (V.bool false), (V.bool false), (V.bool false), (V.bool false), (V.bool false), (V.bool false), (V.bool false), (V.bool false), (V.bool false), (V.bool false), (V.bool false), (V.bool false), (V.bool false), (V.bool false), (V.bool false), (V.bool false), (V.bool false), (V.bool false), (V.bool false), (V.bool false), (V.bool false), (V.bool false), (V.bool false), (V.bool false), (V.bool false), (V.bool false), (V.bool false), (V.bool false), (V.bool false), (V.bool false), (V.bool false), (V.bool false), (V.bool false), (V.bool false), (V.bool false), (V.bool false), (V.bool false), (V.bool false), (V.bool false), (V.bool false), (V.bool false), (V.bool false), (V.bool false), (V.bool false), (V.bool false), (V.bool false), (V.bool false), (V.bool false), (V.bool false), (V.bool false), (V.bool false), (V.bool false), (V.bool false), (V.bool false), (V.bool false), (V.bool false), (V.bool false), (V.bool false), (V.bool false), (V.bool false), (V.bool false), (V.bool false), (V.bool false)] = bls (List.replicate 137 false) := rfl
theorem take_allB {l : List Bool} (h : l.length = 137) : List.take 137 (bls l) = bls l := by
  rw [List.take_of_length_le]; simp [h]
theorem wr_allB {l m : List Bool} (h1 : m.length = 137) (h2 : l.length = 137) : wrCells (bls m) 0 (bls l) = bls l := by
  simp [wrCells, h1, h2]
theorem wrap_up (i : Nat) (h : i < 100000000) : IntKind.i64.wrap ((i : Int) + 1) = ((i + 1 : Nat) : Int) := by rw [Go.IntWalk.i64_in] <;> omega

theorem nought_call (N : List Bool) (hN : N.length = 137) (h : Heap) : CallW Try.prog 80 [.agg (bls N)] h (fun r h' => r = .bool (decide (vl N 136 = 0)) ∧ h' = h) := by
  refine CallW.body mix f80_cf Try.func80 (by rw [Try.ntmps80]; simp) ?_
  rw [f80_entry, f80_n_wp]
  refine ⟨by simp [hN], ?_⟩
  rw [f80_n1_eq, wpA_seq, f80_n10_wp, f80_n1010_eq]
  refine wpA_loop (σ := Nat) (fun i => f80_n10100_F i (bls N)) (fun _ => h) (fun i => 136 - i) (fun i => i ≤ 136 ∧ vl N i = 0) 0 rfl rfl ⟨by omega, vl_zero _⟩ ?_
  rintro i ⟨hi, ha⟩
  simp only [f80_n10100_F]
  rw [f80_n10100_wp]
  by_cases hlt : i < 136
  · simp only [show ((i : Int) < 136) from by omega, decide_true, brW_true, Int.toNat_natCast, Nat.mul_one, Nat.zero_add, bls_len, hN, bls_flag, bls_isBool, wrap_up i (by omega), and_true, true_and]
    refine ⟨by omega, ⟨by omega, by simp; omega⟩, ?_⟩
    cases hb : gb N i with
    | true =>
      have : vl N 136 ≠ 0 := by
        intro e
        have : ∀ j, i < j → vl N j ≠ 0 := by
          intro j
          induction j with
          | zero => intro h; omega
          | succ j ih =>
            intro h
            rw [vl_succ]
            by_cases hj : j = i
            · subst hj; rw [hb]; have := Nat.two_pow_pos j; simp
            · have := ih (by omega); omega
        exact this 136 hlt e
      simp [f80_end1, this]
    | false =>
      simp only [brW_false, seqK_normal, true_and]
      exact ⟨i + 1, rfl, ⟨by omega, by rw [vl_succ, ha, hb]; simp⟩, by omega⟩
  · obtain rfl : i = 136 := by omega
    simp [f80_n11_wp, f80_end1, ha]

theorem below_call (N M : List Bool) (hN : N.length = 137) (hM : M.length = 137) (h : Heap) : CallW Try.prog 78 [.agg (bls N), .agg (bls M)] h (fun r h' => r = .bool (decide (vl N 136 < vl M 136)) ∧ h' = h) := by
  refine CallW.body mix f78_cf Try.func78 (by rw [Try.ntmps78]; simp) ?_
  rw [f78_entry, f78_n_wp]
  refine ⟨by simp [hN], by simp [hM], ?_⟩
  rw [f78_n1_eq, wpA_seq, f78_n10_wp, f78_n1010_eq]
  refine wpA_loop (σ := Nat) (fun k => f78_n10100_F ((k : Int) - 1) (bls N) (bls M)) (fun _ => h) (fun k => k) (fun k => k ≤ 136 ∧ ∃ H, vl N 136 = vl N k + H ∧ vl M 136 = vl M k + H) 136 rfl rfl ⟨Nat.le_refl _, 0, (Nat.add_zero _).symm, (Nat.add_zero _).symm⟩ ?_
  rintro k ⟨hk, H, e1, e2⟩
  simp only [f78_n10100_F]
  rw [f78_n10100_wp]
  match k with
  | 0 =>
    rw [vl_zero] at e1 e2
    simp [f78_n11_wp, f78_end1, e1, e2]
  | k + 1 =>
    have hw : IntKind.i64.wrap ((((k + 1 : Nat) : Int) - 1) - 1) = (k : Int) - 1 := by rw [Go.IntWalk.i64_in] <;> omega
    have ht : (((k + 1 : Nat) : Int) - 1).toNat = k := by omega
    simp only [show ((0 : Int) ≤ ((k + 1 : Nat) : Int) - 1) from by omega, decide_true, brW_true, ht, hw, Nat.mul_one, Nat.zero_add, bls_len, hN, hM, bls_flag, bls_isBool, and_true, true_and]
    refine ⟨by omega, ⟨by omega, by simp; omega⟩, by omega, ⟨by omega, by simp; omega⟩, ?_⟩
    have l1 := vl_lt N k
    have l2 := vl_lt M k
    rw [vl_succ N k] at e1
    rw [vl_succ M k] at e2
    cases hn : gb N k <;> cases hm : gb M k <;> rw [hn] at e1 <;> rw [hm] at e2 <;> simp only [Bool.toNat_true, Bool.toNat_false, Nat.one_mul, Nat.zero_mul] at e1 e2
    · simp only [beq_self_eq_true, Bool.not_true, brW_false, seqK_normal, true_and]
      exact ⟨k, rfl, ⟨by omega, H, by omega, by omega⟩, by omega⟩
    · simp [f78_end1, hm]
      omega
    · simp [f78_end1, hm]
      omega
    · simp only [beq_self_eq_true, Bool.not_true, brW_false, seqK_normal, true_and]
      exact ⟨k, rfl, ⟨by omega, H + 2 ^ k, by omega, by omega⟩, by omega⟩
end

section
open Go Go.Proofs Jb
set_option linter.unusedSimpArgs false
set_option maxRecDepth 4000

theorem more_call (N M : List Bool) (hN : N.length = 137) (hM : M.length = 137) (h : Heap) : CallW Try.prog 77 [.agg (bls N), .agg (bls M)] h
    (fun r h' => (∃ O, O.length = 137 ∧ gb O 136 = false ∧ (vl O 136 = vl N 136 + vl M 136 ∨ vl O 136 + 2 ^ 136 = vl N 136 + vl M 136) ∧ r = .agg (bls O)) ∧ h' = h) := by
  refine CallW.body mix f77_cf Try.func77 (by rw [Try.ntmps77]; simp) ?_
  rw [f77_entry, f77_n_wp]
  refine ⟨by simp [hN], by simp [hM], trivial, trivial, ?_⟩
  rw [f77_n111_eq, wpA_seq, f77_n1110_wp, f77_n111010_eq, nilB]
  refine wpA_loop (σ := Nat × Bool × List Bool) (fun x => f77_n1110100_F x.2.1 x.1 (bls N) (bls M) (bls (List.replicate 137 false)) (bls x.2.2)) (fun _ => h) (fun x => 136 - x.1)
    (fun x => x.1 ≤ 136 ∧ x.2.2.length = 137 ∧ gb x.2.2 136 = false ∧ vl x.2.2 x.1 + (if x.2.1 = true then 2 ^ x.1 else 0) = vl N x.1 + vl M x.1) (0, false, List.replicate 137 false) rfl rfl ⟨by simp, by simp, gb_nil _ _, by simp [vl_zero]⟩ ?_
  rintro ⟨i, carry, O⟩ ⟨hi, hO, hg, hv⟩
  simp only at hi hO hg hv
  simp only [f77_n1110100_F]
  rw [f77_n1110100_wp]
  by_cases hlt : i < 136
  · simp only [show ((i : Int) < 136) from by omega, decide_true, brW_true]
    rw [f77_n11101001_eq, wpA_seq, f77_n111010010_wp, f77_n11101001001_eq, wpA_seq, f77_n111010010010_wp]
    have hp : (2 : Nat) ^ (i + 1) = 2 * 2 ^ i := by rw [Nat.pow_succ]; omega
    have key : ∀ (b c' : Bool), (gb N i).toNat + (gb M i).toNat + carry.toNat = b.toNat + 2 * c'.toNat →
        ∃ s' : Nat × Bool × List Bool, ((s'.2.1 = c' ∧ ((i + 1 : Nat) : Int) = s'.1) ∧ bls (O.set i b) = bls s'.2.2) ∧ (s'.1 ≤ 136 ∧ s'.2.2.length = 137 ∧ gb s'.2.2 136 = false ∧ vl s'.2.2 s'.1 + (if s'.2.1 = true then 2 ^ s'.1 else 0) = vl N s'.1 + vl M s'.1) ∧ 136 - s'.1 < 136 - i := by
      intro b c' e
      refine ⟨(i + 1, c', O.set i b), ⟨⟨rfl, rfl⟩, rfl⟩, ⟨by simp only; omega, by simp [hO], by rw [gb_set, if_neg (by omega)]; exact hg, ?_⟩, by simp only; omega⟩
      simp only
      rw [vl_succ, vl_succ, vl_succ, vl_set _ _ (Nat.le_refl _), gb_set, if_pos ⟨rfl, by omega⟩, hp]
      revert e hv
      generalize (2 : Nat) ^ i = p
      cases b <;> cases c' <;> cases gb N i <;> cases gb M i <;> cases carry <;> simp <;> omega
    simp only [Int.toNat_natCast, Nat.mul_one, Nat.zero_add, bls_len, hN, hM, hO, bls_flag, bls_isBool, and_true, true_and]
    refine ⟨by omega, ⟨by omega, by simp; omega⟩, ?_⟩
    have l1 : i < 137 := by omega
    have l2 : i ≤ 136 := hi
    have l3 : (i : Int) < 136 := by omega
    have hw : IntKind.i64.wrap ((i : Int) + 1) = ((i + 1 : Nat) : Int) := wrap_up i (by omega)
    have w1 : IntKind.i64.wrap 1 = 1 := by decide
    have w2 : IntKind.i64.wrap 2 = 2 := by decide
    have w3 : IntKind.i64.wrap 3 = 3 := by decide
    cases hn : gb N i <;> cases hm : gb M i <;> cases carry <;> rw [hn, hm] at key <;>
      simp [f77_n111010010011_eq, f77_n1110100100110_wp, f77_n1110100100110s1_wp, f77_n1110100100111_eq, f77_n11101001001110_wp, f77_n11101001001110s1_wp, f77_n11101001001111_wp, f77_n11101001001111s1_wp, f77_n111010011_wp, hM, hm, hn, hlt, hO, l1, l3, bls_wr1, hw, w1, w2, w3, -Prod.exists, -Int.natCast_add] <;>
      first | exact ⟨l2, key _ _ rfl⟩ | trace_state
  · obtain rfl : i = 136 := by omega
    simp only [show ¬ (((136 : Nat) : Int) < 136) from by omega, decide_false, brW_false, seqK_exit, blockK_exit, if_true, seqK_normal, f77_n1111_wp]
    simp only [hO, List.drop_zero, take_allB, wr_allB, f77_end1, bls_len, true_and, and_true, Nat.zero_add, List.length_replicate]
    refine ⟨by omega, by omega, by omega, O, hO, hg, ?_, rfl⟩
    cases carry with
    | true => exact .inr hv
    | false => exact .inl hv
end

section
open Go Go.Proofs Jb
set_option linter.unusedSimpArgs false
set_option maxRecDepth 4000

theorem less_call (N M : List Bool) (hN : N.length = 137) (hM : M.length = 137) (hle : vl M 136 ≤ vl N 136) (h : Heap) : CallW Try.prog 79 [.agg (bls N), .agg (bls M)] h
    (fun r h' => (∃ O, O.length = 137 ∧ gb O 136 = false ∧ vl O 136 + vl M 136 = vl N 136 ∧ r = .agg (bls O)) ∧ h' = h) := by
  refine CallW.body mix f79_cf Try.func79 (by rw [Try.ntmps79]; simp) ?_
  rw [f79_entry, f79_n_wp]
  refine ⟨by simp [hN], by simp [hM], trivial, trivial, ?_⟩
  rw [f79_n111_eq, wpA_seq, f79_n1110_wp, f79_n111010_eq, nilB]
  refine wpA_loop (σ := Nat × Bool × List Bool) (fun x => f79_n1110100_F (if x.2.1 = true then 1 else 0) x.1 (bls N) (bls M) (bls (List.replicate 137 false)) (bls x.2.2)) (fun _ => h) (fun x => 136 - x.1)
    (fun x => x.1 ≤ 136 ∧ x.2.2.length = 137 ∧ gb x.2.2 136 = false ∧ vl x.2.2 x.1 + vl M x.1 = vl N x.1 + (if x.2.1 = true then 2 ^ x.1 else 0)) (0, false, List.replicate 137 false) rfl rfl ⟨by simp, by simp, gb_nil _ _, by simp [vl_zero]⟩ ?_
  rintro ⟨i, carry, O⟩ ⟨hi, hO, hg, hv⟩
  simp only at hi hO hg hv
  simp only [f79_n1110100_F]
  rw [f79_n1110100_wp]
  by_cases hlt : i < 136
  · simp only [show ((i : Int) < 136) from by omega, decide_true, brW_true]
    rw [f79_n11101001_eq, wpA_seq, f79_n111010010_wp, f79_n11101001001_eq, wpA_seq, f79_n111010010010_wp]
    have hp : (2 : Nat) ^ (i + 1) = 2 * 2 ^ i := by rw [Nat.pow_succ]; omega
    have key : ∀ (b c' : Bool), b.toNat + (gb M i).toNat + carry.toNat = (gb N i).toNat + 2 * c'.toNat →
        ∃ s' : Nat × Bool × List Bool, ((s'.2.1 = c' ∧ ((i + 1 : Nat) : Int) = s'.1) ∧ bls (O.set i b) = bls s'.2.2) ∧ (s'.1 ≤ 136 ∧ s'.2.2.length = 137 ∧ gb s'.2.2 136 = false ∧ vl s'.2.2 s'.1 + vl M s'.1 = vl N s'.1 + (if s'.2.1 = true then 2 ^ s'.1 else 0)) ∧ 136 - s'.1 < 136 - i := by
      intro b c' e
      refine ⟨(i + 1, c', O.set i b), ⟨⟨rfl, rfl⟩, rfl⟩, ⟨by simp only; omega, by simp [hO], by rw [gb_set, if_neg (by omega)]; exact hg, ?_⟩, by simp only; omega⟩
      simp only
      rw [vl_succ, vl_succ, vl_succ, vl_set _ _ (Nat.le_refl _), gb_set, if_pos ⟨rfl, by omega⟩, hp]
      revert e hv
      generalize (2 : Nat) ^ i = p
      cases b <;> cases c' <;> cases gb N i <;> cases gb M i <;> cases carry <;> simp <;> omega
    simp only [Int.toNat_natCast, Nat.mul_one, Nat.zero_add, bls_len, hN, hM, hO, bls_flag, bls_isBool, and_true, true_and]
    refine ⟨by omega, ⟨by omega, by simp; omega⟩, ?_⟩
    have l1 : i < 137 := by omega
    have l2 : i ≤ 136 := hi
    have l3 : (i : Int) < 136 := by omega
    have hw : IntKind.i64.wrap ((i : Int) + 1) = ((i + 1 : Nat) : Int) := wrap_up i (by omega)
    have w0 : IntKind.i64.wrap 0 = 0 := by decide
    have w1 : IntKind.i64.wrap 1 = 1 := by decide
    have w2 : IntKind.i64.wrap (-1) = -1 := by decide
    have w3 : IntKind.i64.wrap (-2) = -2 := by decide
    cases hn : gb N i <;> cases hm : gb M i <;> cases carry <;> rw [hn, hm] at key <;>
      simp [f79_n111010010011_eq, f79_n1110100100110_wp, f79_n1110100100110s1_wp, f79_n1110100100111_wp, f79_n1110100100111s1_wp, f79_n111010010011111_eq, f79_n1110100100111110_wp, f79_n1110100100111111_wp, f79_n1110100100111111s1_wp, f79_n111010011_wp, hM, hm, hn, hlt, hO, l1, l3, beq_dec, bls_wr1, hw, w0, w1, w2, w3, -Prod.exists, -Int.natCast_add] <;>
      first | exact ⟨l2, key false false rfl⟩ | exact ⟨l2, key true false rfl⟩ | exact ⟨l2, key false true rfl⟩ | exact ⟨l2, key true true rfl⟩ | trace_state
  · obtain rfl : i = 136 := by omega
    simp only [show ¬ (((136 : Nat) : Int) < 136) from by omega, decide_false, brW_false, seqK_exit, blockK_exit, if_true, seqK_normal, f79_n1111_wp]
    simp only [hO, List.drop_zero, take_allB, wr_allB, f79_end1, bls_len, true_and, and_true, Nat.zero_add, List.length_replicate]
    refine ⟨by omega, by omega, by omega, O, hO, hg, ?_, rfl⟩
    have l := vl_lt O 136
    cases carry with
    | true => simp only [if_true] at hv; omega
    | false => exact hv
end

section
set_option linter.all false
set_option maxRecDepth 100000
open Go Go.Proofs Jb
def f69_cf : Cfg := ⟨[], [(2, [6, 7, 8]), (3, [0, 9, 10]), (4, [11]), (5, [12, 13, 14, 15]), (6, [12]), (7, [16]), (8, [18, 19]), (9, [17, 20, 21, 22, 23, 24, 25]), (10, [26, 27]), (11, [3, 4, 5, 17, 28])]⟩
noncomputable def f69_b : Code := bodyOf Try.f69
noncomputable def f69_n : Code :=  (codeAt [] f69_b)
noncomputable def f69_n1111 : Code := hide (codeAt [1, 1, 1, 1] f69_b)
noncomputable def f69_n11110 : Code := hide (codeAt [1, 1, 1, 1, 0] f69_b)
noncomputable def f69_n11111 : Code := hide (codeAt [1, 1, 1, 1, 1] f69_b)
noncomputable def f69_n111110 : Code := hide (codeAt [1, 1, 1, 1, 1, 0] f69_b)
noncomputable def f69_n11111010 : Code := hide (codeAt [1, 1, 1, 1, 1, 0, 1, 0] f69_b)
noncomputable def f69_n111110100 : Code := hide (codeAt [1, 1, 1, 1, 1, 0, 1, 0, 0] f69_b)
noncomputable def f69_n111111 : Code := hide (codeAt [1, 1, 1, 1, 1, 1] f69_b)
theorem f69_entry (x : Int) (h : Heap) (K : V → Heap → Prop) : bodyW Try.prog f69_cf Try.f69 [(V.int Go.IntKind.i64 x)] h K = wpA Try.prog f69_cf f69_n ⟨[(V.int Go.IntKind.i64 x), V.undef, V.undef, V.undef, V.undef, V.undef, V.undef, V.undef, V.undef, V.undef, V.undef, V.undef, V.undef, V.undef, V.undef, V.undef, V.undef, V.undef, V.undef, V.undef, V.undef, V.undef, V.undef, V.undef, V.undef, V.undef, V.undef, V.undef, V.undef], []⟩ h (bodyK Try.prog Try.f69 K) := by kernel_rfl
theorem f69_n_plug : f69_n = (plug [1, 1, 1, 1] (codeAt [] f69_b) f69_n1111) := by
  simp only [f69_n, f69_n1111, hide_eq]
  try kernel_rfl
theorem f69_n_wp (x : Int) (h : Heap) (Q : Ex → Fr → Heap → Prop) : wpA Try.prog f69_cf f69_n ⟨[(V.int Go.IntKind.i64 x), V.undef, V.undef, V.undef, V.undef, V.undef, V.undef, V.undef, V.undef, V.undef, V.undef, V.undef, V.undef, V.undef, V.undef, V.undef, V.undef, V.undef, V.undef, V.undef, V.undef, V.undef, V.undef, V.undef, V.undef, V.undef, V.undef, V.undef, V.undef], []⟩ h Q =
 (True ∧ (True ∧ (True ∧ 136 + 1 ≤ 137 ∧ (let iz1 : Int := (Go.IntKind.wrap Go.IntKind.u64 x);
 (wpA Try.prog f69_cf f69_n1111 ⟨[V.undef, V.undef, (V.lp 2 0), (V.lp 3 0), (V.int Go.IntKind.u64 iz1), V.undef, V.undef, V.undef, V.undef, V.undef, V.undef, V.undef, V.undef, V.undef, V.undef, V.undef, V.undef, V.undef, V.undef, V.undef, V.undef, V.undef, V.undef, V.undef, V.undef, V.undef, V.undef, V.undef, V.undef], [(2, [(V.bool false), (V.bool false), (V.bool false), (V.bool false), (V.bool false), (V.bool false), (V.bool false), (V.bool false), (V.bool false), (V.bool false), (V.bool false), (V.bool false), (V.bool false), (V.bool false), (V.bool false), (V.bool false), (V.bool false), (V.bool false), (V.bool false), (V.bool false), (V.bool false), (V.bool false), (V.bool false), (V.bool false), (V.bool false), (V.bool false), (V.bool false), (V.bool false), (V.bool false), (V.bool false), (V.bool false), (V.bool false), (V.bool false), (V.bool false), (V.bool false), (V.bool false), (V.bool false), (V.bool false), (V.bool false), (V.bool false), (V.bool false), (V.bool false), (V.bool false), (V.bool false), (V.bool false), (V.bool false), (V.bool false), (V.bool false), (V.bool false), (V.bool false), (V.bool false), (V.bool false), (V.bool false), (V.bool false), (V.bool false), (V.bool false), (V.bool false), (V.bool false), (V.bool false), (V.bool false), (V.bool false), (V.bool false), (V.bool false), (V.bool false), (V.bool false), (V.bool false), (V.bool false), (V.bool false), (V.bool false), (V.bool false), (V.bool false), (V.bool false), (V.bool false), (V.bool false), (V.bool false), (V.bool false), (V.bool false), (V.bool false), (V.bool false), (V.bool false), (V.bool false), (V.bool false), (V.bool false), (V.bool false), (V.bool false), (V.bool false), (V.bool false), (V.bool false), (V.bool false), (V.bool false), (V.bool false), (V.bool false), (V.bool false), (V.bool false), (V.bool false), (V.bool false), (V.bool false), (V.bool false), (V.bool false), (V.bool false), (V.bool false), (V.bool false), (V.bool false), (V.bool false), (V.bool false), (V.bool false), (V.bool false), (V.bool false), (V.bool false), (V.bool false), (V.bool false), (V.bool false), (V.bool false), (V.bool false), (V.bool false), (V.bool false), (V.bool false), (V.bool false), (V.bool false), (V.bool false), (V.bool false), (V.bool false), (V.bool false), (V.bool false), (V.bool false), (V.bool false), (V.bool false), (V.bool false), (V.bool false), (V.bool false), (V.bool false), (V.bool false), (V.bool false), (V.bool false), (V.bool false), (V.bool false), (V.bool false)]), (3, [(V.bool false), (V.bool false), (V.bool false), (V.bool false), (V.bool false), (V.bool false), (V.bool false), (V.bool false), (V.bool false), (V.bool false), (V.bool false), (V.bool false), (V.bool false), (V.bool false), (V.bool false), (V.bool false), (V.bool false), (V.bool false), (V.bool false), (V.bool false), (V.bool false), (V.bool false), (V.bool false), (V.bool false), (V.bool false), (V.bool false), (V.bool false), (V.bool false), (V.bool false), (V.bool false), (V.bool false), (V.bool false), (V.bool false), (V.bool false), (V.bool false), (V.bool false), (V.bool false), (V.bool false), (V.bool false), (V.bool false), (V.bool false), (V.bool false), (V.bool false), (V.bool false), (V.bool false), (V.bool false), (V.bool false), (V.bool false), (V.bool false), (V.bool false), (V.bool false), (V.bool false), (V.bool false), (V.bool false), (V.bool false), (V.bool false), (V.bool false), (V.bool false), (V.bool false), (V.bool false), (V.bool false), (V.bool false), (V.bool false), (V.bool false), (V.bool false), (V.bool false), (V.bool false), (V.bool false), (V.bool false), (V.bool false), (V.bool false), (V.bool false), (V.bool false), (V.bool false), (V.bool false), (V.bool false), (V.bool false), (V.bool false), (V.bool false), (V.bool false), (V.bool false), (V.bool false), (V.bool false), (V.bool false), (V.bool false), (V.bool false), (V.bool false), (V.bool false), (V.bool false), (V.bool false), (V.bool false), (V.bool false), (V.bool false), (V.bool false), (V.bool false), (V.bool false), (V.bool false), (V.bool false), (V.bool false), (V.bool false), (V.bool false), (V.bool false), (V.bool false), (V.bool false), (V.bool false), (V.bool false), (V.bool false), (V.bool false), (V.bool false), (V.bool false), (V.bool false), (V.bool false), (V.bool false), (V.bool false), (V.bool false), (V.bool false), (V.bool false), (V.bool false), (V.bool false), (V.bool false), (V.bool false), (V.bool false), (V.bool false), (V.bool false), (V.bool false), (V.bool false), (V.bool false), (V.bool false), (V.bool false), (V.bool false), (V.bool false), (V.bool false), (V.bool false), (V.bool false), (V.bool false), (V.bool false), (V.bool (decide (x < (0 : Int))))])]⟩ h Q))))) := wpA_at f69_n_plug (by kernel_rfl)
theorem f69_n1111_eq : f69_n1111 = Code.seq f69_n11110 f69_n11111 := by
  simp only [f69_n1111, f69_n11110, f69_n11111, hide_eq]
  kernel_rfl
theorem f69_n11110_plug : f69_n11110 = (codeAt [1, 1, 1, 1, 0] f69_b) := by
  simp only [f69_n11110, hide_eq]
  try kernel_rfl
theorem f69_n11110_wp (x0 : Int) (c1 : List V) (c2 : List V) (h : Heap) (Q : Ex → Fr → Heap → Prop) : wpA Try.prog f69_cf f69_n11110 ⟨[V.undef, V.undef, (V.lp 2 0), (V.lp 3 0), (V.int Go.IntKind.u64 x0), V.undef, V.undef, V.undef, V.undef, V.undef, V.undef, V.undef, V.undef, V.undef, V.undef, V.undef, V.undef, V.undef, V.undef, V.undef, V.undef, V.undef, V.undef, V.undef, V.undef, V.undef, V.undef, V.undef, V.undef], [(2, c1), (3, c2)]⟩ h Q =
 ((136 < (List.length c2) ∧ V.isBool (gv c2 136) = true) ∧ (brW (V.flag (gv c2 136))
 (let iz2 : Int := (Go.IntKind.wrap Go.IntKind.u64 ((18446744073709551615 : Int) - x0));
 (let iz3 : Int := (Go.IntKind.wrap Go.IntKind.u64 (iz2 + (1 : Int)));
 (Q Ex.normal ⟨[V.undef, V.undef, (V.lp 2 0), (V.lp 3 0), (V.int Go.IntKind.u64 iz3), V.undef, V.undef, V.undef, V.undef, V.undef, V.undef, V.undef, V.undef, V.undef, V.undef, V.undef, V.undef, V.undef, V.undef, V.undef, V.undef, V.undef, V.undef, V.undef, V.undef, V.undef, V.undef, V.undef, V.undef], [(2, c1), (3, c2)]⟩ h)))
 (Q Ex.normal ⟨[V.undef, V.undef, (V.lp 2 0), (V.lp 3 0), (V.int Go.IntKind.u64 x0), V.undef, V.undef, V.undef, V.undef, V.undef, V.undef, V.undef, (V.bool (V.flag (gv c2 136))), V.undef, V.undef, V.undef, V.undef, V.undef, V.undef, V.undef, V.undef, V.undef, V.undef, V.undef, V.undef, V.undef, V.undef, V.undef, V.undef], [(2, c1), (3, c2)]⟩ h))) := wpA_at f69_n11110_plug (by kernel_rfl)
theorem f69_n11111_eq : f69_n11111 = Code.seq f69_n111110 f69_n111111 := by
  simp only [f69_n11111, f69_n111110, f69_n111111, hide_eq]
  kernel_rfl
theorem f69_n111110_plug : f69_n111110 = (plug [1, 0] (codeAt [1, 1, 1, 1, 1, 0] f69_b) f69_n11111010) := by
  simp only [f69_n111110, f69_n11111010, hide_eq]
  try kernel_rfl
theorem f69_n111110_wp (x0 : Int) (c1 : List V) (c2 : List V) (h : Heap) (Q : Ex → Fr → Heap → Prop) : wpA Try.prog f69_cf f69_n111110 ⟨[V.undef, V.undef, (V.lp 2 0), (V.lp 3 0), (V.int Go.IntKind.u64 x0), V.undef, V.undef, V.undef, V.undef, V.undef, V.undef, V.undef, V.undef, V.undef, V.undef, V.undef, V.undef, V.undef, V.undef, V.undef, V.undef, V.undef, V.undef, V.undef, V.undef, V.undef, V.undef, V.undef, V.undef], [(2, c1), (3, c2)]⟩ h Q =
 (wpA Try.prog f69_cf f69_n11111010 ⟨[V.undef, V.undef, (V.lp 2 0), (V.lp 3 0), (V.int Go.IntKind.u64 x0), (V.int Go.IntKind.i64 (0 : Int)), V.undef, V.undef, V.undef, V.undef, V.undef, V.undef, V.undef, V.undef, V.undef, V.undef, V.undef, V.undef, V.undef, V.undef, V.undef, V.undef, V.undef, V.undef, V.undef, V.undef, V.undef, V.undef, V.undef], [(2, c1), (3, c2)]⟩ h (blockK 0 Q)) := wpA_at f69_n111110_plug (by kernel_rfl)
theorem f69_n111110s1_wp (x0 : Int) (b1 : Bool) (c2 : List V) (c3 : List V) (h : Heap) (Q : Ex → Fr → Heap → Prop) : wpA Try.prog f69_cf f69_n111110 ⟨[V.undef, V.undef, (V.lp 2 0), (V.lp 3 0), (V.int Go.IntKind.u64 x0), V.undef, V.undef, V.undef, V.undef, V.undef, V.undef, V.undef, (V.bool b1), V.undef, V.undef, V.undef, V.undef, V.undef, V.undef, V.undef, V.undef, V.undef, V.undef, V.undef, V.undef, V.undef, V.undef, V.undef, V.undef], [(2, c2), (3, c3)]⟩ h Q =
 (wpA Try.prog f69_cf f69_n11111010 ⟨[V.undef, V.undef, (V.lp 2 0), (V.lp 3 0), (V.int Go.IntKind.u64 x0), (V.int Go.IntKind.i64 (0 : Int)), V.undef, V.undef, V.undef, V.undef, V.undef, V.undef, V.undef, V.undef, V.undef, V.undef, V.undef, V.undef, V.undef, V.undef, V.undef, V.undef, V.undef, V.undef, V.undef, V.undef, V.undef, V.undef, V.undef], [(2, c2), (3, c3)]⟩ h (blockK 0 Q)) := wpA_at f69_n111110_plug (by kernel_rfl)
theorem f69_n11111010_eq : f69_n11111010 = Code.loop f69_n111110100 := by
  simp only [f69_n11111010, f69_n111110100, hide_eq]
  kernel_rfl
def f69_n111110100_F (x0 : Int) (x1 : Int) (c2 : List V) (c3 : List V) : Fr := ⟨[V.undef, V.undef, (V.lp 2 0), (V.lp 3 0), (V.int Go.IntKind.u64 x0), (V.int Go.IntKind.i64 x1), V.undef, V.undef, V.undef, V.undef, V.undef, V.undef, V.undef, V.undef, V.undef, V.undef, V.undef, V.undef, V.undef, V.undef, V.undef, V.undef, V.undef, V.undef, V.undef, V.undef, V.undef, V.undef, V.undef], [(2, c2), (3, c3)]⟩
theorem f69_n111110100_plug : f69_n111110100 = (codeAt [1, 1, 1, 1, 1, 0, 1, 0, 0] f69_b) := by
  simp only [f69_n111110100, hide_eq]
  try kernel_rfl
theorem f69_n111110100_wp (x0 : Int) (x1 : Int) (c2 : List V) (c3 : List V) (h : Heap) (Q : Ex → Fr → Heap → Prop) : wpA Try.prog f69_cf f69_n111110100 ⟨[V.undef, V.undef, (V.lp 2 0), (V.lp 3 0), (V.int Go.IntKind.u64 x0), (V.int Go.IntKind.i64 x1), V.undef, V.undef, V.undef, V.undef, V.undef, V.undef, V.undef, V.undef, V.undef, V.undef, V.undef, V.undef, V.undef, V.undef, V.undef, V.undef, V.undef, V.undef, V.undef, V.undef, V.undef, V.undef, V.undef], [(2, c2), (3, c3)]⟩ h Q =
 (let bz4 : Bool := (decide (x1 < (64 : Int)));
 (brW bz4
 (((2 : Int) ≠ 0) ∧ (let bz5 : Bool := ((Int.tmod x0 (2 : Int)) == (1 : Int));
 ((0 ≤ x1 ∧ x1 < 136) ∧ (True ∧ (0 + ((Int.toNat x1) * 1)) + 1 ≤ (List.length c3) ∧ (let cz6 : List V := (wrCells c3 (0 + ((Int.toNat x1) * 1)) [(V.bool bz5)]);
 (((2 : Int) ≠ 0) ∧ (let iz7 : Int := (Go.IntKind.wrap Go.IntKind.u64 (Int.tdiv x0 (2 : Int)));
 (let iz8 : Int := (Go.IntKind.wrap Go.IntKind.i64 (x1 + (1 : Int)));
 (Q Ex.normal ⟨[V.undef, V.undef, (V.lp 2 0), (V.lp 3 0), (V.int Go.IntKind.u64 iz7), (V.int Go.IntKind.i64 iz8), V.undef, V.undef, V.undef, V.undef, V.undef, V.undef, V.undef, V.undef, V.undef, V.undef, V.undef, V.undef, V.undef, V.undef, V.undef, V.undef, V.undef, V.undef, V.undef, V.undef, V.undef, V.undef, V.undef], [(2, c2), (3, cz6)]⟩ h)))))))))
 (Q (Ex.exit 0) ⟨[V.undef, V.undef, (V.lp 2 0), (V.lp 3 0), (V.int Go.IntKind.u64 x0), (V.int Go.IntKind.i64 x1), V.undef, V.undef, V.undef, V.undef, V.undef, V.undef, V.undef, V.undef, V.undef, V.undef, V.undef, (V.bool bz4), V.undef, V.undef, V.undef, V.undef, V.undef, V.undef, V.undef, V.undef, V.undef, V.undef, V.undef], [(2, c2), (3, c3)]⟩ h))) := wpA_at f69_n111110100_plug (by kernel_rfl)
theorem f69_n111111_plug : f69_n111111 = (codeAt [1, 1, 1, 1, 1, 1] f69_b) := by
  simp only [f69_n111111, hide_eq]
  try kernel_rfl
theorem f69_n111111_wp (x0 : Int) (x1 : Int) (b2 : Bool) (c3 : List V) (c4 : List V) (h : Heap) (Q : Ex → Fr → Heap → Prop) : wpA Try.prog f69_cf f69_n111111 ⟨[V.undef, V.undef, (V.lp 2 0), (V.lp 3 0), (V.int Go.IntKind.u64 x0), (V.int Go.IntKind.i64 x1), V.undef, V.undef, V.undef, V.undef, V.undef, V.undef, V.undef, V.undef, V.undef, V.undef, V.undef, (V.bool b2), V.undef, V.undef, V.undef, V.undef, V.undef, V.undef, V.undef, V.undef, V.undef, V.undef, V.undef], [(2, c3), (3, c4)]⟩ h Q =
 ((0 + 137 ≤ (List.length c4)) ∧ (let cz9 : List V := (List.take 137 (List.drop 0 c4));
 (((List.length cz9) = 137) ∧ 0 + 137 ≤ (List.length c3) ∧ (Q Ex.ret ⟨[V.undef, V.undef, (V.lp 2 0), V.undef, V.undef, V.undef, V.undef, V.undef, V.undef, V.undef, V.undef, V.undef, V.undef, V.undef, V.undef, V.undef, V.undef, V.undef, V.undef, V.undef, V.undef, V.undef, V.undef, V.undef, V.undef, V.undef, V.undef, V.undef, V.undef], [(2, (wrCells c3 0 cz9))]⟩ h)))) := wpA_at f69_n111111_plug (by kernel_rfl)
theorem f69_end1 (c0 : List V) (h : Heap) (K : V → Heap → Prop) : bodyK Try.prog Try.f69 K Ex.ret ⟨[V.undef, V.undef, (V.lp 2 0), V.undef, V.undef, V.undef, V.undef, V.undef, V.undef, V.undef, V.undef, V.undef, V.undef, V.undef, V.undef, V.undef, V.undef, V.undef, V.undef, V.undef, V.undef, V.undef, V.undef, V.undef, V.undef, V.undef, V.undef, V.undef, V.undef], [(2, c0)]⟩ h = ((0 + 137 ≤ (List.length c0)) ∧ (let cz10 : List V := (List.take 137 (List.drop 0 c0));
 (K (V.agg cz10) h))) := by kernel_rfl
end

section
set_option linter.all false
set_option maxRecDepth 100000
open Go Go.Proofs Jb
def f81_cf : Cfg := ⟨[], [(0, [0, 2, 3]), (2, [7]), (3, [9, 10, 14]), (4, [8, 11, 12, 13]), (5, [1, 4, 14]), (6, [4, 8]), (8, [15]), (9, [17, 18, 24]), (10, [16, 19, 20]), (11, [21, 22, 23]), (12, [24, 25, 26]), (13, [1, 6, 16, 27]), (14, [28, 29]), (15, [5, 30]), (16, [5, 30, 31, 32, 33, 34]), (17, [5, 28, 35, 36, 37, 38])]⟩
noncomputable def f81_b : Code := bodyOf Try.f81
noncomputable def f81_n : Code :=  (codeAt [] f81_b)
noncomputable def f81_n1 : Code := hide (codeAt [1] f81_b)
noncomputable def f81_n10 : Code := hide (codeAt [1, 0] f81_b)
noncomputable def f81_n1010 : Code := hide (codeAt [1, 0, 1, 0] f81_b)
noncomputable def f81_n10100 : Code := hide (codeAt [1, 0, 1, 0, 0] f81_b)
noncomputable def f81_n11 : Code := hide (codeAt [1, 1] f81_b)
noncomputable def f81_n111 : Code := hide (codeAt [1, 1, 1] f81_b)
noncomputable def f81_n1110 : Code := hide (codeAt [1, 1, 1, 0] f81_b)
noncomputable def f81_n111010 : Code := hide (codeAt [1, 1, 1, 0, 1, 0] f81_b)
noncomputable def f81_n1110100 : Code := hide (codeAt [1, 1, 1, 0, 1, 0, 0] f81_b)
noncomputable def f81_n11101001 : Code := hide (codeAt [1, 1, 1, 0, 1, 0, 0, 1] f81_b)
noncomputable def f81_n1111 : Code := hide (codeAt [1, 1, 1, 1] f81_b)
noncomputable def f81_n111010010 : Code := hide (codeAt [1, 1, 1, 0, 1, 0, 0, 1, 0] f81_b)
noncomputable def f81_n111010011 : Code := hide (codeAt [1, 1, 1, 0, 1, 0, 0, 1, 1] f81_b)
theorem f81_entry (x : List V) (h : Heap) (K : V → Heap → Prop) : bodyW Try.prog f81_cf Try.f81 [(V.agg x)] h K = wpA Try.prog f81_cf f81_n ⟨[(V.agg x), V.undef, V.undef, V.undef, V.undef, V.undef, V.undef, V.undef, V.undef, V.undef, V.undef, V.undef, V.undef, V.undef, V.undef, V.undef, V.undef, V.undef, V.undef, V.undef, V.undef, V.undef, V.undef, V.undef, V.undef, V.undef, V.undef, V.undef, V.undef, V.undef, V.undef, V.undef, V.undef, V.undef, V.undef, V.undef, V.undef, V.undef, V.undef], []⟩ h (bodyK Try.prog Try.f81 K) := by kernel_rfl
theorem f81_n_plug : f81_n = (plug [1] (codeAt [] f81_b) f81_n1) := by
  simp only [f81_n, f81_n1, hide_eq]
  try kernel_rfl
theorem f81_n_wp (x : List V) (h : Heap) (Q : Ex → Fr → Heap → Prop) : wpA Try.prog f81_cf f81_n ⟨[(V.agg x), V.undef, V.undef, V.undef, V.undef, V.undef, V.undef, V.undef, V.undef, V.undef, V.undef, V.undef, V.undef, V.undef, V.undef, V.undef, V.undef, V.undef, V.undef, V.undef, V.undef, V.undef, V.undef, V.undef, V.undef, V.undef, V.undef, V.undef, V.undef, V.undef, V.undef, V.undef, V.undef, V.undef, V.undef, V.undef, V.undef, V.undef, V.undef], []⟩ h Q =
 (((List.length x) = 137) ∧ (wpA Try.prog f81_cf f81_n1 ⟨[V.undef, (V.lp 1 0), V.undef, V.undef, V.undef, V.undef, V.undef, V.undef, V.undef, V.undef, V.undef, V.undef, V.undef, V.undef, V.undef, V.undef, V.undef, V.undef, V.undef, V.undef, V.undef, V.undef, V.undef, V.undef, V.undef, V.undef, V.undef, V.undef, V.undef, V.undef, V.undef, V.undef, V.undef, V.undef, V.undef, V.undef, V.undef, V.undef, V.undef], [(1, x)]⟩ h Q)) := wpA_at f81_n_plug (by kernel_rfl)
theorem f81_n1_eq : f81_n1 = Code.seq f81_n10 f81_n11 := by
  simp only [f81_n1, f81_n10, f81_n11, hide_eq]
  kernel_rfl
theorem f81_n10_plug : f81_n10 = (plug [1, 0] (codeAt [1, 0] f81_b) f81_n1010) := by
  simp only [f81_n10, f81_n1010, hide_eq]
  try kernel_rfl
theorem f81_n10_wp (c0 : List V) (h : Heap) (Q : Ex → Fr → Heap → Prop) : wpA Try.prog f81_cf f81_n10 ⟨[V.undef, (V.lp 1 0), V.undef, V.undef, V.undef, V.undef, V.undef, V.undef, V.undef, V.undef, V.undef, V.undef, V.undef, V.undef, V.undef, V.undef, V.undef, V.undef, V.undef, V.undef, V.undef, V.undef, V.undef, V.undef, V.undef, V.undef, V.undef, V.undef, V.undef, V.undef, V.undef, V.undef, V.undef, V.undef, V.undef, V.undef, V.undef, V.undef, V.undef], [(1, c0)]⟩ h Q =
 (wpA Try.prog f81_cf f81_n1010 ⟨[V.undef, (V.lp 1 0), V.undef, V.undef, (V.int Go.IntKind.i64 (64 : Int)), V.undef, V.undef, V.undef, V.undef, V.undef, V.undef, V.undef, V.undef, V.undef, V.undef, V.undef, V.undef, V.undef, V.undef, V.undef, V.undef, V.undef, V.undef, V.undef, V.undef, V.undef, V.undef, V.undef, V.undef, V.undef, V.undef, V.undef, V.undef, V.undef, V.undef, V.undef, V.undef, V.undef, V.undef], [(1, c0)]⟩ h (blockK 0 Q)) := wpA_at f81_n10_plug (by kernel_rfl)
theorem f81_n1010_eq : f81_n1010 = Code.loop f81_n10100 := by
  simp only [f81_n1010, f81_n10100, hide_eq]
  kernel_rfl
def f81_n10100_F (x0 : Int) (c1 : List V) : Fr := ⟨[V.undef, (V.lp 1 0), V.undef, V.undef, (V.int Go.IntKind.i64 x0), V.undef, V.undef, V.undef, V.undef, V.undef, V.undef, V.undef, V.undef, V.undef, V.undef, V.undef, V.undef, V.undef, V.undef, V.undef, V.undef, V.undef, V.undef, V.undef, V.undef, V.undef, V.undef, V.undef, V.undef, V.undef, V.undef, V.undef, V.undef, V.undef, V.undef, V.undef, V.undef, V.undef, V.undef], [(1, c1)]⟩
theorem f81_n10100_plug : f81_n10100 = (codeAt [1, 0, 1, 0, 0] f81_b) := by
  simp only [f81_n10100, hide_eq]
  try kernel_rfl
theorem f81_n10100_wp (x0 : Int) (c1 : List V) (h : Heap) (Q : Ex → Fr → Heap → Prop) : wpA Try.prog f81_cf f81_n10100 ⟨[V.undef, (V.lp 1 0), V.undef, V.undef, (V.int Go.IntKind.i64 x0), V.undef, V.undef, V.undef, V.undef, V.undef, V.undef, V.undef, V.undef, V.undef, V.undef, V.undef, V.undef, V.undef, V.undef, V.undef, V.undef, V.undef, V.undef, V.undef, V.undef, V.undef, V.undef, V.undef, V.undef, V.undef, V.undef, V.undef, V.undef, V.undef, V.undef, V.undef, V.undef, V.undef, V.undef], [(1, c1)]⟩ h Q =
 (let bz1 : Bool := (decide (x0 < (136 : Int)));
 (brW bz1
 ((0 ≤ x0 ∧ x0 < 136) ∧ (((0 + ((Int.toNat x0) * 1)) < (List.length c1) ∧ V.isBool (gv c1 (0 + ((Int.toNat x0) * 1))) = true) ∧ (let bz2 : Bool := (V.flag (gv c1 (0 + ((Int.toNat x0) * 1))));
 (brW bz2
 (Q Ex.ret ⟨[V.undef, V.undef, (V.int Go.IntKind.i64 (0 : Int)), (V.bool false), V.undef, V.undef, V.undef, V.undef, V.undef, V.undef, V.undef, V.undef, V.undef, V.undef, V.undef, V.undef, V.undef, V.undef, V.undef, V.undef, V.undef, V.undef, V.undef, V.undef, V.undef, V.undef, V.undef, V.undef, V.undef, V.undef, V.undef, V.undef, V.undef, V.undef, V.undef, V.undef, V.undef, V.undef, V.undef], []⟩ h)
 (let iz3 : Int := (Go.IntKind.wrap Go.IntKind.i64 (x0 + (1 : Int)));
 (Q Ex.normal ⟨[V.undef, (V.lp 1 0), V.undef, V.undef, (V.int Go.IntKind.i64 iz3), V.undef, V.undef, V.undef, V.undef, V.undef, V.undef, V.undef, V.undef, V.undef, V.undef, V.undef, V.undef, V.undef, V.undef, V.undef, V.undef, V.undef, V.undef, V.undef, V.undef, V.undef, V.undef, V.undef, V.undef, V.undef, V.undef, V.undef, V.undef, V.undef, V.undef, V.undef, V.undef, V.undef, V.undef], [(1, c1)]⟩ h))))))
 (Q (Ex.exit 0) ⟨[V.undef, (V.lp 1 0), V.undef, V.undef, (V.int Go.IntKind.i64 x0), V.undef, V.undef, V.undef, (V.bool bz1), V.undef, V.undef, V.undef, V.undef, V.undef, V.undef, V.undef, V.undef, V.undef, V.undef, V.undef, V.undef, V.undef, V.undef, V.undef, V.undef, V.undef, V.undef, V.undef, V.undef, V.undef, V.undef, V.undef, V.undef, V.undef, V.undef, V.undef, V.undef, V.undef, V.undef], [(1, c1)]⟩ h))) := wpA_at f81_n10100_plug (by kernel_rfl)
theorem f81_n11_plug : f81_n11 = (plug [1] (codeAt [1, 1] f81_b) f81_n111) := by
  simp only [f81_n11, f81_n111, hide_eq]
  try kernel_rfl
theorem f81_n11_wp (x0 : Int) (b1 : Bool) (c2 : List V) (h : Heap) (Q : Ex → Fr → Heap → Prop) : wpA Try.prog f81_cf f81_n11 ⟨[V.undef, (V.lp 1 0), V.undef, V.undef, (V.int Go.IntKind.i64 x0), V.undef, V.undef, V.undef, (V.bool b1), V.undef, V.undef, V.undef, V.undef, V.undef, V.undef, V.undef, V.undef, V.undef, V.undef, V.undef, V.undef, V.undef, V.undef, V.undef, V.undef, V.undef, V.undef, V.undef, V.undef, V.undef, V.undef, V.undef, V.undef, V.undef, V.undef, V.undef, V.undef, V.undef, V.undef], [(1, c2)]⟩ h Q =
 (wpA Try.prog f81_cf f81_n111 ⟨[V.undef, (V.lp 1 0), V.undef, V.undef, V.undef, (V.int Go.IntKind.u64 (0 : Int)), V.undef, V.undef, V.undef, V.undef, V.undef, V.undef, V.undef, V.undef, V.undef, V.undef, V.undef, V.undef, V.undef, V.undef, V.undef, V.undef, V.undef, V.undef, V.undef, V.undef, V.undef, V.undef, V.undef, V.undef, V.undef, V.undef, V.undef, V.undef, V.undef, V.undef, V.undef, V.undef, V.undef], [(1, c2)]⟩ h Q) := wpA_at f81_n11_plug (by kernel_rfl)
theorem f81_n111_eq : f81_n111 = Code.seq f81_n1110 f81_n1111 := by
  simp only [f81_n111, f81_n1110, f81_n1111, hide_eq]
  kernel_rfl
theorem f81_n1110_plug : f81_n1110 = (plug [1, 0] (codeAt [1, 1, 1, 0] f81_b) f81_n111010) := by
  simp only [f81_n1110, f81_n111010, hide_eq]
  try kernel_rfl
theorem f81_n1110_wp (x0 : Int) (c1 : List V) (h : Heap) (Q : Ex → Fr → Heap → Prop) : wpA Try.prog f81_cf f81_n1110 ⟨[V.undef, (V.lp 1 0), V.undef, V.undef, V.undef, (V.int Go.IntKind.u64 x0), V.undef, V.undef, V.undef, V.undef, V.undef, V.undef, V.undef, V.undef, V.undef, V.undef, V.undef, V.undef, V.undef, V.undef, V.undef, V.undef, V.undef, V.undef, V.undef, V.undef, V.undef, V.undef, V.undef, V.undef, V.undef, V.undef, V.undef, V.undef, V.undef, V.undef, V.undef, V.undef, V.undef], [(1, c1)]⟩ h Q =
 (wpA Try.prog f81_cf f81_n111010 ⟨[V.undef, (V.lp 1 0), V.undef, V.undef, V.undef, (V.int Go.IntKind.u64 x0), (V.int Go.IntKind.i64 (63 : Int)), V.undef, V.undef, V.undef, V.undef, V.undef, V.undef, V.undef, V.undef, V.undef, V.undef, V.undef, V.undef, V.undef, V.undef, V.undef, V.undef, V.undef, V.undef, V.undef, V.undef, V.undef, V.undef, V.undef, V.undef, V.undef, V.undef, V.undef, V.undef, V.undef, V.undef, V.undef, V.undef], [(1, c1)]⟩ h (blockK 2 Q)) := wpA_at f81_n1110_plug (by kernel_rfl)
theorem f81_n111010_eq : f81_n111010 = Code.loop f81_n1110100 := by
  simp only [f81_n111010, f81_n1110100, hide_eq]
  kernel_rfl
def f81_n1110100_F (x0 : Int) (x1 : Int) (c2 : List V) : Fr := ⟨[V.undef, (V.lp 1 0), V.undef, V.undef, V.undef, (V.int Go.IntKind.u64 x0), (V.int Go.IntKind.i64 x1), V.undef, V.undef, V.undef, V.undef, V.undef, V.undef, V.undef, V.undef, V.undef, V.undef, V.undef, V.undef, V.undef, V.undef, V.undef, V.undef, V.undef, V.undef, V.undef, V.undef, V.undef, V.undef, V.undef, V.undef, V.undef, V.undef, V.undef, V.undef, V.undef, V.undef, V.undef, V.undef], [(1, c2)]⟩
theorem f81_n1110100_plug : f81_n1110100 = (plug [1] (codeAt [1, 1, 1, 0, 1, 0, 0] f81_b) f81_n11101001) := by
  simp only [f81_n1110100, f81_n11101001, hide_eq]
  try kernel_rfl
theorem f81_n1110100_wp (x0 : Int) (x1 : Int) (c2 : List V) (h : Heap) (Q : Ex → Fr → Heap → Prop) : wpA Try.prog f81_cf f81_n1110100 ⟨[V.undef, (V.lp 1 0), V.undef, V.undef, V.undef, (V.int Go.IntKind.u64 x0), (V.int Go.IntKind.i64 x1), V.undef, V.undef, V.undef, V.undef, V.undef, V.undef, V.undef, V.undef, V.undef, V.undef, V.undef, V.undef, V.undef, V.undef, V.undef, V.undef, V.undef, V.undef, V.undef, V.undef, V.undef, V.undef, V.undef, V.undef, V.undef, V.undef, V.undef, V.undef, V.undef, V.undef, V.undef, V.undef], [(1, c2)]⟩ h Q =
 (let bz4 : Bool := (decide ((0 : Int) ≤ x1));
 (brW bz4
 (wpA Try.prog f81_cf f81_n11101001 ⟨[V.undef, (V.lp 1 0), V.undef, V.undef, V.undef, (V.int Go.IntKind.u64 x0), (V.int Go.IntKind.i64 x1), V.undef, V.undef, V.undef, V.undef, V.undef, V.undef, V.undef, V.undef, V.undef, (V.bool bz4), V.undef, V.undef, V.undef, V.undef, V.undef, V.undef, V.undef, V.undef, V.undef, V.undef, V.undef, V.undef, V.undef, V.undef, V.undef, V.undef, V.undef, V.undef, V.undef, V.undef, V.undef, V.undef], [(1, c2)]⟩ h Q)
 (Q (Ex.exit 2) ⟨[V.undef, (V.lp 1 0), V.undef, V.undef, V.undef, (V.int Go.IntKind.u64 x0), (V.int Go.IntKind.i64 x1), V.undef, V.undef, V.undef, V.undef, V.undef, V.undef, V.undef, V.undef, V.undef, (V.bool bz4), V.undef, V.undef, V.undef, V.undef, V.undef, V.undef, V.undef, V.undef, V.undef, V.undef, V.undef, V.undef, V.undef, V.undef, V.undef, V.undef, V.undef, V.undef, V.undef, V.undef, V.undef, V.undef], [(1, c2)]⟩ h))) := wpA_at f81_n1110100_plug (by kernel_rfl)
theorem f81_n11101001_eq : f81_n11101001 = Code.seq f81_n111010010 f81_n111010011 := by
  simp only [f81_n11101001, f81_n111010010, f81_n111010011, hide_eq]
  kernel_rfl
theorem f81_n1111_plug : f81_n1111 = (codeAt [1, 1, 1, 1] f81_b) := by
  simp only [f81_n1111, hide_eq]
  try kernel_rfl
theorem f81_n1111_wp (x0 : Int) (x1 : Int) (b2 : Bool) (c3 : List V) (h : Heap) (Q : Ex → Fr → Heap → Prop) : wpA Try.prog f81_cf f81_n1111 ⟨[V.undef, (V.lp 1 0), V.undef, V.undef, V.undef, (V.int Go.IntKind.u64 x0), (V.int Go.IntKind.i64 x1), V.undef, V.undef, V.undef, V.undef, V.undef, V.undef, V.undef, V.undef, V.undef, (V.bool b2), V.undef, V.undef, V.undef, V.undef, V.undef, V.undef, V.undef, V.undef, V.undef, V.undef, V.undef, V.undef, V.undef, V.undef, V.undef, V.undef, V.undef, V.undef, V.undef, V.undef, V.undef, V.undef], [(1, c3)]⟩ h Q =
 ((136 < (List.length c3) ∧ V.isBool (gv c3 136) = true) ∧ (brW (V.flag (gv c3 136))
 (let bz5 : Bool := (decide ((9223372036854775808 : Int) < x0));
 (brW bz5
 (Q Ex.ret ⟨[V.undef, V.undef, (V.int Go.IntKind.i64 (0 : Int)), (V.bool false), V.undef, V.undef, V.undef, V.undef, V.undef, V.undef, V.undef, V.undef, V.undef, V.undef, V.undef, V.undef, V.undef, V.undef, V.undef, V.undef, V.undef, V.undef, V.undef, V.undef, V.undef, V.undef, V.undef, V.undef, V.undef, V.undef, V.undef, V.undef, V.undef, V.undef, V.undef, V.undef, V.undef, V.undef, V.undef], []⟩ h)
 (let iz6 : Int := (Go.IntKind.wrap Go.IntKind.u64 ((18446744073709551615 : Int) - x0));
 (let iz7 : Int := (Go.IntKind.wrap Go.IntKind.u64 (iz6 + (1 : Int)));
 (let iz8 : Int := (Go.IntKind.wrap Go.IntKind.i64 iz7);
 (Q Ex.ret ⟨[V.undef, V.undef, (V.int Go.IntKind.i64 iz8), (V.bool true), V.undef, V.undef, V.undef, V.undef, V.undef, V.undef, V.undef, V.undef, V.undef, V.undef, V.undef, V.undef, V.undef, V.undef, V.undef, V.undef, V.undef, V.undef, V.undef, V.undef, V.undef, V.undef, V.undef, V.undef, V.undef, V.undef, V.undef, V.undef, V.undef, V.undef, V.undef, V.undef, V.undef, V.undef, V.undef], []⟩ h))))))
 (let iz9 : Int := (Go.IntKind.wrap Go.IntKind.i64 x0);
 (let bz10 : Bool := (decide (x0 < (9223372036854775808 : Int)));
 (Q Ex.ret ⟨[V.undef, V.undef, (V.int Go.IntKind.i64 iz9), (V.bool bz10), V.undef, V.undef, V.undef, V.undef, V.undef, V.undef, V.undef, V.undef, V.undef, V.undef, V.undef, V.undef, V.undef, V.undef, V.undef, V.undef, V.undef, V.undef, V.undef, V.undef, V.undef, V.undef, V.undef, V.undef, V.undef, V.undef, V.undef, V.undef, V.undef, V.undef, V.undef, V.undef, V.undef, V.undef, V.undef], []⟩ h))))) := wpA_at f81_n1111_plug (by kernel_rfl)
theorem f81_n111010010_plug : f81_n111010010 = (codeAt [1, 1, 1, 0, 1, 0, 0, 1, 0] f81_b) := by
  simp only [f81_n111010010, hide_eq]
  try kernel_rfl
theorem f81_n111010010_wp (x0 : Int) (x1 : Int) (b2 : Bool) (c3 : List V) (h : Heap) (Q : Ex → Fr → Heap → Prop) : wpA Try.prog f81_cf f81_n111010010 ⟨[V.undef, (V.lp 1 0), V.undef, V.undef, V.undef, (V.int Go.IntKind.u64 x0), (V.int Go.IntKind.i64 x1), V.undef, V.undef, V.undef, V.undef, V.undef, V.undef, V.undef, V.undef, V.undef, (V.bool b2), V.undef, V.undef, V.undef, V.undef, V.undef, V.undef, V.undef, V.undef, V.undef, V.undef, V.undef, V.undef, V.undef, V.undef, V.undef, V.undef, V.undef, V.undef, V.undef, V.undef, V.undef, V.undef], [(1, c3)]⟩ h Q =
 (let iz11 : Int := (Go.IntKind.wrap Go.IntKind.u64 ((2 : Int) * x0));
 ((0 ≤ x1 ∧ x1 < 136) ∧ (((0 + ((Int.toNat x1) * 1)) < (List.length c3) ∧ V.isBool (gv c3 (0 + ((Int.toNat x1) * 1))) = true) ∧ (let bz12 : Bool := (V.flag (gv c3 (0 + ((Int.toNat x1) * 1))));
 (brW bz12
 (let iz13 : Int := (Go.IntKind.wrap Go.IntKind.u64 (iz11 + (1 : Int)));
 (Q Ex.normal ⟨[V.undef, (V.lp 1 0), V.undef, V.undef, V.undef, (V.int Go.IntKind.u64 iz13), (V.int Go.IntKind.i64 x1), V.undef, V.undef, V.undef, V.undef, V.undef, V.undef, V.undef, V.undef, V.undef, V.undef, V.undef, V.undef, V.undef, V.undef, V.undef, V.undef, V.undef, V.undef, V.undef, V.undef, V.undef, V.undef, V.undef, V.undef, V.undef, V.undef, V.undef, V.undef, V.undef, V.undef, V.undef, V.undef], [(1, c3)]⟩ h))
 (Q Ex.normal ⟨[V.undef, (V.lp 1 0), V.undef, V.undef, V.undef, (V.int Go.IntKind.u64 iz11), (V.int Go.IntKind.i64 x1), V.undef, V.undef, V.undef, V.undef, V.undef, V.undef, V.undef, V.undef, V.undef, V.undef, V.undef, V.undef, V.undef, V.undef, V.undef, V.undef, V.undef, (V.bool bz12), V.undef, V.undef, V.undef, V.undef, V.undef, V.undef, V.undef, V.undef, V.undef, V.undef, V.undef, V.undef, V.undef, V.undef], [(1, c3)]⟩ h)))))) := wpA_at f81_n111010010_plug (by kernel_rfl)
theorem f81_n111010011_plug : f81_n111010011 = (codeAt [1, 1, 1, 0, 1, 0, 0, 1, 1] f81_b) := by
  simp only [f81_n111010011, hide_eq]
  try kernel_rfl
theorem f81_n111010011_wp (x0 : Int) (x1 : Int) (c2 : List V) (h : Heap) (Q : Ex → Fr → Heap → Prop) : wpA Try.prog f81_cf f81_n111010011 ⟨[V.undef, (V.lp 1 0), V.undef, V.undef, V.undef, (V.int Go.IntKind.u64 x0), (V.int Go.IntKind.i64 x1), V.undef, V.undef, V.undef, V.undef, V.undef, V.undef, V.undef, V.undef, V.undef, V.undef, V.undef, V.undef, V.undef, V.undef, V.undef, V.undef, V.undef, V.undef, V.undef, V.undef, V.undef, V.undef, V.undef, V.undef, V.undef, V.undef, V.undef, V.undef, V.undef, V.undef, V.undef, V.undef], [(1, c2)]⟩ h Q =
 (let iz14 : Int := (Go.IntKind.wrap Go.IntKind.i64 (x1 - (1 : Int)));
 (Q Ex.normal ⟨[V.undef, (V.lp 1 0), V.undef, V.undef, V.undef, (V.int Go.IntKind.u64 x0), (V.int Go.IntKind.i64 iz14), V.undef, V.undef, V.undef, V.undef, V.undef, V.undef, V.undef, V.undef, V.undef, V.undef, V.undef, V.undef, V.undef, V.undef, V.undef, V.undef, V.undef, V.undef, V.undef, V.undef, V.undef, V.undef, V.undef, V.undef, V.undef, V.undef, V.undef, V.undef, V.undef, V.undef, V.undef, V.undef], [(1, c2)]⟩ h)) := wpA_at f81_n111010011_plug (by kernel_rfl)
theorem f81_n111010011s1_wp (x0 : Int) (x1 : Int) (b2 : Bool) (c3 : List V) (h : Heap) (Q : Ex → Fr → Heap → Prop) : wpA Try.prog f81_cf f81_n111010011 ⟨[V.undef, (V.lp 1 0), V.undef, V.undef, V.undef, (V.int Go.IntKind.u64 x0), (V.int Go.IntKind.i64 x1), V.undef, V.undef, V.undef, V.undef, V.undef, V.undef, V.undef, V.undef, V.undef, V.undef, V.undef, V.undef, V.undef, V.undef, V.undef, V.undef, V.undef, (V.bool b2), V.undef, V.undef, V.undef, V.undef, V.undef, V.undef, V.undef, V.undef, V.undef, V.undef, V.undef, V.undef, V.undef, V.undef], [(1, c3)]⟩ h Q =
 (let iz15 : Int := (Go.IntKind.wrap Go.IntKind.i64 (x1 - (1 : Int)));
 (Q Ex.normal ⟨[V.undef, (V.lp 1 0), V.undef, V.undef, V.undef, (V.int Go.IntKind.u64 x0), (V.int Go.IntKind.i64 iz15), V.undef, V.undef, V.undef, V.undef, V.undef, V.undef, V.undef, V.undef, V.undef, V.undef, V.undef, V.undef, V.undef, V.undef, V.undef, V.undef, V.undef, V.undef, V.undef, V.undef, V.undef, V.undef, V.undef, V.undef, V.undef, V.undef, V.undef, V.undef, V.undef, V.undef, V.undef, V.undef], [(1, c3)]⟩ h)) := wpA_at f81_n111010011_plug (by kernel_rfl)
theorem f81_end1 (x0 : Int) (b1 : Bool) (h : Heap) (K : V → Heap → Prop) : bodyK Try.prog Try.f81 K Ex.ret ⟨[V.undef, V.undef, (V.int Go.IntKind.i64 x0), (V.bool b1), V.undef, V.undef, V.undef, V.undef, V.undef, V.undef, V.undef, V.undef, V.undef, V.undef, V.undef, V.undef, V.undef, V.undef, V.undef, V.undef, V.undef, V.undef, V.undef, V.undef, V.undef, V.undef, V.undef, V.undef, V.undef, V.undef, V.undef, V.undef, V.undef, V.undef, V.undef, V.undef, V.undef, V.undef, V.undef], []⟩ h = (K (V.tup [(V.int Go.IntKind.i64 x0), (V.bool b1)]) h) := by kernel_rfl
end

section
set_option linter.all false
set_option maxRecDepth 100000
open Go Go.Proofs Jb
def f70_cf : Cfg := ⟨[], [(0, [0, 2, 3]), (1, [1, 6, 7, 8, 9, 10]), (2, [5, 11]), (3, [4, 12]), (4, [4, 12, 13])]⟩
noncomputable def f70_b : Code := bodyOf Try.f70
noncomputable def f70_n : Code :=  (codeAt [] f70_b)
theorem f70_entry (n : List V) (h : Heap) (K : V → Heap → Prop) : bodyW Try.prog f70_cf Try.f70 [(V.agg n)] h K = wpA Try.prog f70_cf f70_n ⟨[(V.agg n), V.undef, V.undef, V.undef, V.undef, V.undef, V.undef, V.undef, V.undef, V.undef, V.undef, V.undef, V.undef, V.undef], []⟩ h (bodyK Try.prog Try.f70 K) := by kernel_rfl
theorem f70_n_plug : f70_n = (codeAt [] f70_b) := by
  simp only [f70_n, hide_eq]
  try kernel_rfl
theorem f70_n_wp (n : List V) (h : Heap) (Q : Ex → Fr → Heap → Prop) : wpA Try.prog f70_cf f70_n ⟨[(V.agg n), V.undef, V.undef, V.undef, V.undef, V.undef, V.undef, V.undef, V.undef, V.undef, V.undef, V.undef, V.undef, V.undef], []⟩ h Q =
 (((List.length n) = 137) ∧ ((0 + 137 ≤ (List.length n)) ∧ (let cz1 : List V := (List.take 137 (List.drop 0 n));
 (AnyW Try.prog 81 [(V.agg cz1)] h (fun (rz2 : V) (hz3 : Heap) =>
 (V.isTup 2 rz2 = true ∧ ((True ∧ V.isInt Go.IntKind.i64 (gv (V.vs rz2) 0) = true) ∧ (let iz4 : Int := (V.num (gv (V.vs rz2) 0));
 ((True ∧ V.isBool (gv (V.vs rz2) 1) = true) ∧ (let bz5 : Bool := (V.flag (gv (V.vs rz2) 1));
 ((true = true) ∧ ((true = true) ∧ (brW (!bz5)
 (Q Ex.ret ⟨[V.undef, V.undef, (V.int Go.IntKind.i64 (0 : Int)), (V.int Go.IntKind.i64 (10 : Int)), V.undef, V.undef, V.undef, V.undef, V.undef, V.undef, V.undef, V.undef, V.undef, V.undef], []⟩ hz3)
 (Q Ex.ret ⟨[V.undef, V.undef, (V.int Go.IntKind.i64 iz4), (V.int Go.IntKind.i64 (0 : Int)), V.undef, V.undef, V.undef, V.undef, V.undef, V.undef, V.undef, V.undef, V.undef, V.undef], []⟩ hz3)))))))))))))) := wpA_at f70_n_plug (by kernel_rfl)
theorem f70_end1 (x0 : Int) (x1 : Int) (h : Heap) (K : V → Heap → Prop) : bodyK Try.prog Try.f70 K Ex.ret ⟨[V.undef, V.undef, (V.int Go.IntKind.i64 x0), (V.int Go.IntKind.i64 x1), V.undef, V.undef, V.undef, V.undef, V.undef, V.undef, V.undef, V.undef, V.undef, V.undef], []⟩ h = (K (V.tup [(V.int Go.IntKind.i64 x0), (V.int Go.IntKind.i64 x1)]) h) := by kernel_rfl
end

section
set_option linter.all false
set_option maxRecDepth 100000
open Go Go.Proofs Jb
def f68_cf : Cfg := ⟨[], [(0, [0, 1]), (2, [6, 7, 8, 9]), (3, [3, 10, 11, 12, 13]), (4, [2, 14, 15, 16]), (5, [10, 17, 18]), (6, [2, 19, 20, 21, 22]), (7, [3, 23, 24, 25]), (8, [3, 19, 26, 27, 28]), (9, [2, 29, 30, 31]), (10, [32, 33, 34, 35, 36, 37, 38, 39]), (11, [5, 40])]⟩
noncomputable def f68_b : Code := bodyOf Try.f68
noncomputable def f68_n : Code :=  (codeAt [] f68_b)
noncomputable def f68_n11 : Code := hide (codeAt [1, 1] f68_b)
noncomputable def f68_n110 : Code := hide (codeAt [1, 1, 0] f68_b)
noncomputable def f68_n111 : Code := hide (codeAt [1, 1, 1] f68_b)
noncomputable def f68_n1110 : Code := hide (codeAt [1, 1, 1, 0] f68_b)
noncomputable def f68_n1111 : Code := hide (codeAt [1, 1, 1, 1] f68_b)
theorem f68_entry (x : List V) (y : List V) (h : Heap) (K : V → Heap → Prop) : bodyW Try.prog f68_cf Try.f68 [(V.agg x), (V.agg y)] h K = wpA Try.prog f68_cf f68_n ⟨[(V.agg x), (V.agg y), V.undef, V.undef, V.undef, V.undef, V.undef, V.undef, V.undef, V.undef, V.undef, V.undef, V.undef, V.undef, V.undef, V.undef, V.undef, V.undef, V.undef, V.undef, V.undef, V.undef, V.undef, V.undef, V.undef, V.undef, V.undef, V.undef, V.undef, V.undef, V.undef, V.undef, V.undef, V.undef, V.undef, V.undef, V.undef, V.undef, V.undef, V.undef, V.undef], []⟩ h (bodyK Try.prog Try.f68 K) := by kernel_rfl
theorem f68_n_plug : f68_n = (plug [1, 1] (codeAt [] f68_b) f68_n11) := by
  simp only [f68_n, f68_n11, hide_eq]
  try kernel_rfl
theorem f68_n_wp (x : List V) (y : List V) (h : Heap) (Q : Ex → Fr → Heap → Prop) : wpA Try.prog f68_cf f68_n ⟨[(V.agg x), (V.agg y), V.undef, V.undef, V.undef, V.undef, V.undef, V.undef, V.undef, V.undef, V.undef, V.undef, V.undef, V.undef, V.undef, V.undef, V.undef, V.undef, V.undef, V.undef, V.undef, V.undef, V.undef, V.undef, V.undef, V.undef, V.undef, V.undef, V.undef, V.undef, V.undef, V.undef, V.undef, V.undef, V.undef, V.undef, V.undef, V.undef, V.undef, V.undef, V.undef], []⟩ h Q =
 (((List.length x) = 137) ∧ (((List.length y) = 137) ∧ (True ∧ (True ∧ (wpA Try.prog f68_cf f68_n11 ⟨[V.undef, V.undef, (V.lp 2 0), (V.lp 3 0), (V.lp 4 0), (V.lp 5 0), V.undef, V.undef, V.undef, V.undef, V.undef, V.undef, V.undef, V.undef, V.undef, V.undef, V.undef, V.undef, V.undef, V.undef, V.undef, V.undef, V.undef, V.undef, V.undef, V.undef, V.undef, V.undef, V.undef, V.undef, V.undef, V.undef, V.undef, V.undef, V.undef, V.undef, V.undef, V.undef, V.undef, V.undef, V.undef], [(2, x), (3, y), (4, [(V.bool false), (V.bool false), (V.bool false), (V.bool false), (V.bool false), (V.bool false), (V.bool false), (V.bool false), (V.bool false), (V.bool false), (V.bool false), (V.bool false), (V.bool false), (V.bool false), (V.bool false), (V.bool false), (V.bool false), (V.bool false), (V.bool false), (V.bool false), (V.bool false), (V.bool false), (V.bool false), (V.bool false), (V.bool false), (V.bool false), (V.bool false), (V.bool false), (V.bool false), (V.bool false), (V.bool false), (V.bool false), (V.bool false), (V.bool false), (V.bool false), (V.bool false), (V.bool false), (V.bool false), (V.bool false), (V.bool false), (V.bool false), (V.bool false), (V.bool false), (V.bool false), (V.bool false), (V.bool false), (V.bool false), (V.bool false), (V.bool false), (V.bool false), (V.bool false), (V.bool false), (V.bool false), (V.bool false), (V.bool false), (V.bool false), (V.bool false), (V.bool false), (V.bool false), (V.bool false), (V.bool false), (V.bool false), (V.bool false), (V.bool false), (V.bool false), (V.bool false), (V.bool false), (V.bool false), (V.bool false), (V.bool false), (V.bool false), (V.bool false), (V.bool false), (V.bool false), (V.bool false), (V.bool false), (V.bool false), (V.bool false), (V.bool false), (V.bool false), (V.bool false), (V.bool false), (V.bool false), (V.bool false), (V.bool false), (V.bool false), (V.bool false), (V.bool false), (V.bool false), (V.bool false), (V.bool false), (V.bool false), (V.bool false), (V.bool false), (V.bool false), (V.bool false), (V.bool false), (V.bool false), (V.bool false), (V.bool false), (V.bool false), (V.bool false), (V.bool false), (V.bool false), (V.bool false), (V.bool false), (V.bool false), (V.bool false), (V.bool false), (V.bool false), (V.bool false), (V.bool false), (V.bool false), (V.bool false), (V.bool false), (V.bool false), (V.bool false), (V.bool false), (V.bool false), (V.bool false), (V.bool false), (V.bool false), (V.bool false), (V.bool false), (V.bool false), (V.bool false), (V.bool false), (V.bool false), (V.bool false), (V.bool false), (V.bool false), (V.bool false), (V.bool false), (V.bool false), (V.bool false), (V.bool false), (V.bool false)]), (5, [(V.bool false), (V.bool false), (V.bool false), (V.bool false), (V.bool false), (V.bool false), (V.bool false), (V.bool false), (V.bool false), (V.bool false), (V.bool false), (V.bool false), (V.bool false), (V.bool false), (V.bool false), (V.bool false), (V.bool false), (V.bool false), (V.bool false), (V.bool false), (V.bool false), (V.bool false), (V.bool false), (V.bool false), (V.bool false), (V.bool false), (V.bool false), (V.bool false), (V.bool false), (V.bool false), (V.bool false), (V.bool false), (V.bool false), (V.bool false), (V.bool false), (V.bool false), (V.bool false), (V.bool false), (V.bool false), (V.bool false), (V.bool false), (V.bool false), (V.bool false), (V.bool false), (V.bool false), (V.bool false), (V.bool false), (V.bool false), (V.bool false), (V.bool false), (V.bool false), (V.bool false), (V.bool false), (V.bool false), (V.bool false), (V.bool false), (V.bool false), (V.bool false), (V.bool false), (V.bool false), (V.bool false), (V.bool false), (V.bool false), (V.bool false), (V.bool false), (V.bool false), (V.bool false), (V.bool false), (V.bool false), (V.bool false), (V.bool false), (V.bool false), (V.bool false), (V.bool false), (V.bool false), (V.bool false), (V.bool false), (V.bool false), (V.bool false), (V.bool false), (V.bool false), (V.bool false), (V.bool false), (V.bool false), (V.bool false), (V.bool false), (V.bool false), (V.bool false), (V.bool false), (V.bool false), (V.bool false), (V.bool false), (V.bool false), (V.bool false), (V.bool false), (V.bool false), (V.bool false), (V.bool false), (V.bool false), (V.bool false), (V.bool false), (V.bool false), (V.bool false), (V.bool false), (V.bool false), (V.bool false), (V.bool false), (V.bool false), (V.bool false), (V.bool false), (V.bool false), (V.bool false), (V.bool false), (V.bool false), (V.bool false), (V.bool false), (V.bool false), (V.bool false), (V.bool false), (V.bool false), (V.bool false), (V.bool false), (V.bool false), (V.bool false), (V.bool false), (V.bool false), (V.bool false), (V.bool false), (V.bool false), (V.bool false), (V.bool false), (V.bool false), (V.bool false), (V.bool false), (V.bool false), (V.bool false), (V.bool false)])]⟩ h Q))))) := wpA_at f68_n_plug (by kernel_rfl)
theorem f68_n11_eq : f68_n11 = Code.seq f68_n110 f68_n111 := by
  simp only [f68_n11, f68_n110, f68_n111, hide_eq]
  kernel_rfl
theorem f68_n110_plug : f68_n110 = (codeAt [1, 1, 0] f68_b) := by
  simp only [f68_n110, hide_eq]
  try kernel_rfl
theorem f68_n110_wp (c0 : List V) (c1 : List V) (c2 : List V) (c3 : List V) (h : Heap) (Q : Ex → Fr → Heap → Prop) : wpA Try.prog f68_cf f68_n110 ⟨[V.undef, V.undef, (V.lp 2 0), (V.lp 3 0), (V.lp 4 0), (V.lp 5 0), V.undef, V.undef, V.undef, V.undef, V.undef, V.undef, V.undef, V.undef, V.undef, V.undef, V.undef, V.undef, V.undef, V.undef, V.undef, V.undef, V.undef, V.undef, V.undef, V.undef, V.undef, V.undef, V.undef, V.undef, V.undef, V.undef, V.undef, V.undef, V.undef, V.undef, V.undef, V.undef, V.undef, V.undef, V.undef], [(2, c0), (3, c1), (4, c2), (5, c3)]⟩ h Q =
 ((136 < (List.length c0) ∧ V.isBool (gv c0 136) = true) ∧ ((136 < (List.length c1) ∧ V.isBool (gv c1 136) = true) ∧ (let bz1 : Bool := ((V.flag (gv c0 136)) == (V.flag (gv c1 136)));
 (brW bz1
 ((0 + 137 ≤ (List.length c0)) ∧ (let cz2 : List V := (List.take 137 (List.drop 0 c0));
 ((0 + 137 ≤ (List.length c1)) ∧ (let cz3 : List V := (List.take 137 (List.drop 0 c1));
 (AnyW Try.prog 77 [(V.agg cz2), (V.agg cz3)] h (fun (rz4 : V) (hz5 : Heap) =>
 ((True ∧ V.isAgg 137 rz4 = true) ∧ (((List.length (V.cells rz4)) = 137) ∧ 0 + 137 ≤ (List.length c3) ∧ (let cz6 : List V := (wrCells c3 0 (V.cells rz4));
 ((136 < (List.length c0) ∧ V.isBool (gv c0 136) = true) ∧ (True ∧ 136 + 1 ≤ (List.length cz6) ∧ (let cz7 : List V := (wrCells cz6 136 [(V.bool (V.flag (gv c0 136)))]);
 (Q Ex.normal ⟨[V.undef, V.undef, V.undef, V.undef, (V.lp 4 0), (V.lp 5 0), V.undef, V.undef, V.undef, V.undef, V.undef, V.undef, V.undef, V.undef, V.undef, V.undef, V.undef, V.undef, V.undef, V.undef, V.undef, V.undef, V.undef, V.undef, V.undef, V.undef, V.undef, V.undef, V.undef, V.undef, V.undef, V.undef, V.undef, V.undef, V.undef, V.undef, V.undef, V.undef, V.undef, V.undef, V.undef], [(4, c2), (5, cz7)]⟩ hz5)))))))))))))
 ((0 + 137 ≤ (List.length c0)) ∧ (let cz8 : List V := (List.take 137 (List.drop 0 c0));
 ((0 + 137 ≤ (List.length c1)) ∧ (let cz9 : List V := (List.take 137 (List.drop 0 c1));
 (AnyW Try.prog 78 [(V.agg cz8), (V.agg cz9)] h (fun (rz10 : V) (hz11 : Heap) =>
 ((True ∧ V.isBool rz10 = true) ∧ (brW (V.flag rz10)
 ((0 + 137 ≤ (List.length c1)) ∧ (let cz12 : List V := (List.take 137 (List.drop 0 c1));
 ((0 + 137 ≤ (List.length c0)) ∧ (let cz13 : List V := (List.take 137 (List.drop 0 c0));
 (AnyW Try.prog 79 [(V.agg cz12), (V.agg cz13)] hz11 (fun (rz14 : V) (hz15 : Heap) =>
 ((True ∧ V.isAgg 137 rz14 = true) ∧ (((List.length (V.cells rz14)) = 137) ∧ 0 + 137 ≤ (List.length c3) ∧ (let cz16 : List V := (wrCells c3 0 (V.cells rz14));
 ((136 < (List.length c1) ∧ V.isBool (gv c1 136) = true) ∧ (True ∧ 136 + 1 ≤ (List.length cz16) ∧ (let cz17 : List V := (wrCells cz16 136 [(V.bool (V.flag (gv c1 136)))]);
 (Q Ex.normal ⟨[V.undef, V.undef, V.undef, V.undef, (V.lp 4 0), (V.lp 5 0), V.undef, V.undef, V.undef, V.undef, V.undef, V.undef, V.undef, V.undef, V.undef, V.undef, V.undef, V.undef, V.undef, V.undef, V.undef, V.undef, V.undef, V.undef, V.undef, V.undef, V.undef, V.undef, V.undef, V.undef, V.undef, V.undef, V.undef, V.undef, V.undef, V.undef, V.undef, V.undef, V.undef, V.undef, V.undef], [(4, c2), (5, cz17)]⟩ hz15)))))))))))))
 ((0 + 137 ≤ (List.length c0)) ∧ (let cz18 : List V := (List.take 137 (List.drop 0 c0));
 ((0 + 137 ≤ (List.length c1)) ∧ (let cz19 : List V := (List.take 137 (List.drop 0 c1));
 (AnyW Try.prog 79 [(V.agg cz18), (V.agg cz19)] hz11 (fun (rz20 : V) (hz21 : Heap) =>
 ((True ∧ V.isAgg 137 rz20 = true) ∧ (((List.length (V.cells rz20)) = 137) ∧ 0 + 137 ≤ (List.length c3) ∧ (let cz22 : List V := (wrCells c3 0 (V.cells rz20));
 ((136 < (List.length c0) ∧ V.isBool (gv c0 136) = true) ∧ (True ∧ 136 + 1 ≤ (List.length cz22) ∧ (let cz23 : List V := (wrCells cz22 136 [(V.bool (V.flag (gv c0 136)))]);
 (Q Ex.normal ⟨[V.undef, V.undef, V.undef, V.undef, (V.lp 4 0), (V.lp 5 0), V.undef, V.undef, V.undef, V.undef, V.undef, V.undef, V.undef, V.undef, V.undef, V.undef, V.undef, V.undef, V.undef, V.undef, V.undef, V.undef, V.undef, V.undef, V.undef, V.undef, V.undef, V.undef, V.undef, V.undef, V.undef, V.undef, V.undef, V.undef, V.undef, V.undef, V.undef, V.undef, V.undef, V.undef, V.undef], [(4, c2), (5, cz23)]⟩ hz21))))))))))))))))))))))))) := wpA_at f68_n110_plug (by kernel_rfl)
theorem f68_n111_eq : f68_n111 = Code.seq f68_n1110 f68_n1111 := by
  simp only [f68_n111, f68_n1110, f68_n1111, hide_eq]
  kernel_rfl
def f68_n111_F (c0 : List V) (c1 : List V) : Fr := ⟨[V.undef, V.undef, V.undef, V.undef, (V.lp 4 0), (V.lp 5 0), V.undef, V.undef, V.undef, V.undef, V.undef, V.undef, V.undef, V.undef, V.undef, V.undef, V.undef, V.undef, V.undef, V.undef, V.undef, V.undef, V.undef, V.undef, V.undef, V.undef, V.undef, V.undef, V.undef, V.undef, V.undef, V.undef, V.undef, V.undef, V.undef, V.undef, V.undef, V.undef, V.undef, V.undef, V.undef], [(4, c0), (5, c1)]⟩
theorem f68_n1110_plug : f68_n1110 = (codeAt [1, 1, 1, 0] f68_b) := by
  simp only [f68_n1110, hide_eq]
  try kernel_rfl
theorem f68_n1110_wp (c0 : List V) (c1 : List V) (h : Heap) (Q : Ex → Fr → Heap → Prop) : wpA Try.prog f68_cf f68_n1110 ⟨[V.undef, V.undef, V.undef, V.undef, (V.lp 4 0), (V.lp 5 0), V.undef, V.undef, V.undef, V.undef, V.undef, V.undef, V.undef, V.undef, V.undef, V.undef, V.undef, V.undef, V.undef, V.undef, V.undef, V.undef, V.undef, V.undef, V.undef, V.undef, V.undef, V.undef, V.undef, V.undef, V.undef, V.undef, V.undef, V.undef, V.undef, V.undef, V.undef, V.undef, V.undef, V.undef, V.undef], [(4, c0), (5, c1)]⟩ h Q =
 ((136 < (List.length c1) ∧ V.isBool (gv c1 136) = true) ∧ (((V.flag (gv c1 136)) = true → (0 + 137 ≤ (List.length c1))) ∧ (let cz24 : List V := (List.take 137 (List.drop 0 c1));
 (let kz25 : Bool → Heap → Prop := fun (xz26 : Bool) (hz27 : Heap) =>
 (((V.flag (gv c1 136)) = true → (V.flag (gv c1 136)) = true) ∧ ((((V.flag (gv c1 136)) = true → (V.flag (gv c1 136)) = true) ∧ True) ∧ (let bz28 : Bool := (cond (V.flag (gv c1 136)) (!xz26) false);
 (True ∧ 136 + 1 ≤ (List.length c1) ∧ (let cz29 : List V := (wrCells c1 136 [(V.bool bz28)]);
 (Q Ex.normal ⟨[V.undef, V.undef, V.undef, V.undef, (V.lp 4 0), (V.lp 5 0), V.undef, V.undef, V.undef, V.undef, V.undef, V.undef, V.undef, V.undef, V.undef, V.undef, V.undef, V.undef, V.undef, V.undef, V.undef, V.undef, V.undef, V.undef, V.undef, V.undef, V.undef, V.undef, V.undef, V.undef, V.undef, V.undef, V.undef, V.undef, V.undef, V.undef, V.undef, V.undef, V.undef, V.undef, V.undef], [(4, c0), (5, cz29)]⟩ hz27))))));
 brW (V.flag (gv c1 136))
 (((V.flag (gv c1 136)) = true) ∧ (AnyW Try.prog 80 [(V.agg cz24)] h (fun (rz30 : V) (hz31 : Heap) =>
 ((True ∧ V.isBool rz30 = true) ∧ (kz25 (V.flag rz30) hz31)))))
 (kz25 false h))))) := wpA_at f68_n1110_plug (by kernel_rfl)
theorem f68_n1111_plug : f68_n1111 = (codeAt [1, 1, 1, 1] f68_b) := by
  simp only [f68_n1111, hide_eq]
  try kernel_rfl
theorem f68_n1111_wp (c0 : List V) (c1 : List V) (h : Heap) (Q : Ex → Fr → Heap → Prop) : wpA Try.prog f68_cf f68_n1111 ⟨[V.undef, V.undef, V.undef, V.undef, (V.lp 4 0), (V.lp 5 0), V.undef, V.undef, V.undef, V.undef, V.undef, V.undef, V.undef, V.undef, V.undef, V.undef, V.undef, V.undef, V.undef, V.undef, V.undef, V.undef, V.undef, V.undef, V.undef, V.undef, V.undef, V.undef, V.undef, V.undef, V.undef, V.undef, V.undef, V.undef, V.undef, V.undef, V.undef, V.undef, V.undef, V.undef, V.undef], [(4, c0), (5, c1)]⟩ h Q =
 ((0 + 137 ≤ (List.length c1)) ∧ (let cz32 : List V := (List.take 137 (List.drop 0 c1));
 (((List.length cz32) = 137) ∧ 0 + 137 ≤ (List.length c0) ∧ (Q Ex.ret ⟨[V.undef, V.undef, V.undef, V.undef, (V.lp 4 0), V.undef, V.undef, V.undef, V.undef, V.undef, V.undef, V.undef, V.undef, V.undef, V.undef, V.undef, V.undef, V.undef, V.undef, V.undef, V.undef, V.undef, V.undef, V.undef, V.undef, V.undef, V.undef, V.undef, V.undef, V.undef, V.undef, V.undef, V.undef, V.undef, V.undef, V.undef, V.undef, V.undef, V.undef, V.undef, V.undef], [(4, (wrCells c0 0 cz32))]⟩ h)))) := wpA_at f68_n1111_plug (by kernel_rfl)
theorem f68_end1 (c0 : List V) (h : Heap) (K : V → Heap → Prop) : bodyK Try.prog Try.f68 K Ex.ret ⟨[V.undef, V.undef, V.undef, V.undef, (V.lp 4 0), V.undef, V.undef, V.undef, V.undef, V.undef, V.undef, V.undef, V.undef, V.undef, V.undef, V.undef, V.undef, V.undef, V.undef, V.undef, V.undef, V.undef, V.undef, V.undef, V.undef, V.undef, V.undef, V.undef, V.undef, V.undef, V.undef, V.undef, V.undef, V.undef, V.undef, V.undef, V.undef, V.undef, V.undef, V.undef, V.undef], [(4, c0)]⟩ h = ((0 + 137 ≤ (List.length c0)) ∧ (let cz33 : List V := (List.take 137 (List.drop 0 c0));
 (K (V.agg cz33) h))) := by kernel_rfl
end

section
set_option linter.all false
set_option maxRecDepth 100000
open Go Go.Proofs Jb
def f56_cf : Cfg := ⟨[], [(0, [2, 3]), (3, [6, 7, 8]), (4, [10, 11]), (5, [9, 12, 13, 14, 15, 16, 17, 18]), (6, [0, 4, 5, 9, 19, 20, 21, 22])]⟩
noncomputable def f56_b : Code := bodyOf Try.f56
noncomputable def f56_n : Code :=  (codeAt [] f56_b)
noncomputable def f56_n11 : Code := hide (codeAt [1, 1] f56_b)
noncomputable def f56_n110 : Code := hide (codeAt [1, 1, 0] f56_b)
noncomputable def f56_n11010 : Code := hide (codeAt [1, 1, 0, 1, 0] f56_b)
noncomputable def f56_n110100 : Code := hide (codeAt [1, 1, 0, 1, 0, 0] f56_b)
noncomputable def f56_n111 : Code := hide (codeAt [1, 1, 1] f56_b)
theorem f56_entry (l : List Int) (l_g : G) (h : Heap) (K : V → Heap → Prop) : bodyW Try.prog f56_cf Try.f56 [(V.sl 1 (col l) l_g)] h K = wpA Try.prog f56_cf f56_n ⟨[(V.sl 1 (col l) l_g), V.undef, V.undef, V.undef, V.undef, V.undef, V.undef, V.undef, V.undef, V.undef, V.undef, V.undef, V.undef, V.undef, V.undef, V.undef, V.undef, V.undef, V.undef, V.undef, V.undef, V.undef, V.undef], []⟩ h (bodyK Try.prog Try.f56 K) := by kernel_rfl
theorem f56_n_plug : f56_n = (plug [1, 1] (codeAt [] f56_b) f56_n11) := by
  simp only [f56_n, f56_n11, hide_eq]
  try kernel_rfl
theorem f56_n_wp (l : List Int) (l_g : G) (h : Heap) (Q : Ex → Fr → Heap → Prop) : wpA Try.prog f56_cf f56_n ⟨[(V.sl 1 (col l) l_g), V.undef, V.undef, V.undef, V.undef, V.undef, V.undef, V.undef, V.undef, V.undef, V.undef, V.undef, V.undef, V.undef, V.undef, V.undef, V.undef, V.undef, V.undef, V.undef, V.undef, V.undef, V.undef], []⟩ h Q =
 (True ∧ (wpA Try.prog f56_cf f56_n11 ⟨[(V.sl 1 (col l) l_g), V.undef, V.undef, V.undef, (V.lp 4 0), V.undef, V.undef, V.undef, V.undef, V.undef, V.undef, V.undef, V.undef, V.undef, V.undef, V.undef, V.undef, V.undef, V.undef, V.undef, V.undef, V.undef, V.undef], [(4, [(V.bool false), (V.bool false), (V.bool false), (V.bool false), (V.bool false), (V.bool false), (V.bool false), (V.bool false), (V.bool false), (V.bool false), (V.bool false), (V.bool false), (V.bool false), (V.bool false), (V.bool false), (V.bool false), (V.bool false), (V.bool false), (V.bool false), (V.bool false), (V.bool false), (V.bool false), (V.bool false), (V.bool false), (V.bool false), (V.bool false), (V.bool false), (V.bool false), (V.bool false), (V.bool false), (V.bool false), (V.bool false), (V.bool false), (V.bool false), (V.bool false), (V.bool false), (V.bool false), (V.bool false), (V.bool false), (V.bool false), (V.bool false), (V.bool false), (V.bool false), (V.bool false), (V.bool false), (V.bool false), (V.bool false), (V.bool false), (V.bool false), (V.bool false), (V.bool false), (V.bool false), (V.bool false), (V.bool false), (V.bool false), (V.bool false), (V.bool false), (V.bool false), (V.bool false), (V.bool false), (V.bool false), (V.bool false), (V.bool false), (V.bool false), (V.bool false), (V.bool false), (V.bool false), (V.bool false), (V.bool false), (V.bool false), (V.bool false), (V.bool false), (V.bool false), (V.bool false), (V.bool false), (V.bool false), (V.bool false), (V.bool false), (V.bool false), (V.bool false), (V.bool false), (V.bool false), (V.bool false), (V.bool false), (V.bool false), (V.bool false), (V.bool false), (V.bool false), (V.bool false), (V.bool false), (V.bool false), (V.bool false), (V.bool false), (V.bool false), (V.bool false), (V.bool false), (V.bool false), (V.bool false), (V.bool false), (V.bool false), (V.bool false), (V.bool false), (V.bool false), (V.bool false), (V.bool false), (V.bool false), (V.bool false), (V.bool false), (V.bool false), (V.bool false), (V.bool false), (V.bool false), (V.bool false), (V.bool false), (V.bool false), (V.bool false), (V.bool false), (V.bool false), (V.bool false), (V.bool false), (V.bool false), (V.bool false), (V.bool false), (V.bool false), (V.bool false), (V.bool false), (V.bool false), (V.bool false), (V.bool false), (V.bool false), (V.bool false), (V.bool false), (V.bool false), (V.bool false), (V.bool false), (V.bool false), (V.bool false)])]⟩ h Q)) := wpA_at f56_n_plug (by kernel_rfl)
theorem f56_n11_eq : f56_n11 = Code.seq f56_n110 f56_n111 := by
  simp only [f56_n11, f56_n110, f56_n111, hide_eq]
  kernel_rfl
theorem f56_n110_plug : f56_n110 = (plug [1, 0] (codeAt [1, 1, 0] f56_b) f56_n11010) := by
  simp only [f56_n110, f56_n11010, hide_eq]
  try kernel_rfl
theorem f56_n110_wp (e0 : List (List V)) (g1 : G) (c2 : List V) (h : Heap) (Q : Ex → Fr → Heap → Prop) : wpA Try.prog f56_cf f56_n110 ⟨[(V.sl 1 e0 g1), V.undef, V.undef, V.undef, (V.lp 4 0), V.undef, V.undef, V.undef, V.undef, V.undef, V.undef, V.undef, V.undef, V.undef, V.undef, V.undef, V.undef, V.undef, V.undef, V.undef, V.undef, V.undef, V.undef], [(4, c2)]⟩ h Q =
 (wpA Try.prog f56_cf f56_n11010 ⟨[(V.sl 1 e0 g1), V.undef, V.undef, V.undef, (V.lp 4 0), (V.int Go.IntKind.i64 (0 : Int)), V.undef, V.undef, V.undef, V.undef, V.undef, V.undef, V.undef, V.undef, V.undef, V.undef, V.undef, V.undef, V.undef, V.undef, V.undef, V.undef, V.undef], [(4, c2)]⟩ h (blockK 0 Q)) := wpA_at f56_n110_plug (by kernel_rfl)
theorem f56_n11010_eq : f56_n11010 = Code.loop f56_n110100 := by
  simp only [f56_n11010, f56_n110100, hide_eq]
  kernel_rfl
def f56_n110100_F (e0 : List (List V)) (g1 : G) (x2 : Int) (c3 : List V) : Fr := ⟨[(V.sl 1 e0 g1), V.undef, V.undef, V.undef, (V.lp 4 0), (V.int Go.IntKind.i64 x2), V.undef, V.undef, V.undef, V.undef, V.undef, V.undef, V.undef, V.undef, V.undef, V.undef, V.undef, V.undef, V.undef, V.undef, V.undef, V.undef, V.undef], [(4, c3)]⟩
theorem f56_n110100_plug : f56_n110100 = (codeAt [1, 1, 0, 1, 0, 0] f56_b) := by
  simp only [f56_n110100, hide_eq]
  try kernel_rfl
theorem f56_n110100_wp (e0 : List (List V)) (g1 : G) (x2 : Int) (c3 : List V) (h : Heap) (Q : Ex → Fr → Heap → Prop) : wpA Try.prog f56_cf f56_n110100 ⟨[(V.sl 1 e0 g1), V.undef, V.undef, V.undef, (V.lp 4 0), (V.int Go.IntKind.i64 x2), V.undef, V.undef, V.undef, V.undef, V.undef, V.undef, V.undef, V.undef, V.undef, V.undef, V.undef, V.undef, V.undef, V.undef, V.undef, V.undef, V.undef], [(4, c3)]⟩ h Q =
 (let bz1 : Bool := (decide (x2 < ((List.length e0) : Int)));
 (brW bz1
 ((0 + 137 ≤ (List.length c3)) ∧ (let cz2 : List V := (List.take 137 (List.drop 0 c3));
 ((0 ≤ x2 ∧ x2 < (List.length e0)) ∧ ((0 < (List.length (ge e0 (Int.toNat x2))) ∧ V.isInt Go.IntKind.i64 (gv (ge e0 (Int.toNat x2)) 0) = true) ∧ (let iz3 : Int := (V.num (gv (ge e0 (Int.toNat x2)) 0));
 (AnyW Try.prog 69 [(V.int Go.IntKind.i64 iz3)] h (fun (rz4 : V) (hz5 : Heap) =>
 ((True ∧ V.isAgg 137 rz4 = true) ∧ (((0 + 137 ≤ (List.length c3)) ∧ (V.agg (List.take 137 (List.drop 0 c3))) = (V.agg cz2)) ∧ (AnyW Try.prog 68 [(V.agg cz2), (V.agg (V.cells rz4))] hz5 (fun (rz6 : V) (hz7 : Heap) =>
 ((True ∧ V.isAgg 137 rz6 = true) ∧ (((List.length (V.cells rz6)) = 137) ∧ 0 + 137 ≤ (List.length c3) ∧ (let cz8 : List V := (wrCells c3 0 (V.cells rz6));
 (let iz9 : Int := (Go.IntKind.wrap Go.IntKind.i64 (x2 + (1 : Int)));
 (Q Ex.normal ⟨[(V.sl 1 e0 g1), V.undef, V.undef, V.undef, (V.lp 4 0), (V.int Go.IntKind.i64 iz9), V.undef, V.undef, V.undef, V.undef, V.undef, V.undef, V.undef, V.undef, V.undef, V.undef, V.undef, V.undef, V.undef, V.undef, V.undef, V.undef, V.undef], [(4, cz8)]⟩ hz7))))))))))))))))
 (Q (Ex.exit 0) ⟨[(V.sl 1 e0 g1), V.undef, V.undef, V.undef, (V.lp 4 0), (V.int Go.IntKind.i64 x2), V.undef, V.undef, V.undef, (V.bool bz1), V.undef, V.undef, V.undef, V.undef, V.undef, V.undef, V.undef, V.undef, V.undef, V.undef, V.undef, V.undef, V.undef], [(4, c3)]⟩ h))) := wpA_at f56_n110100_plug (by kernel_rfl)
theorem f56_n111_plug : f56_n111 = (codeAt [1, 1, 1] f56_b) := by
  simp only [f56_n111, hide_eq]
  try kernel_rfl
theorem f56_n111_wp (e0 : List (List V)) (g1 : G) (x2 : Int) (b3 : Bool) (c4 : List V) (h : Heap) (Q : Ex → Fr → Heap → Prop) : wpA Try.prog f56_cf f56_n111 ⟨[(V.sl 1 e0 g1), V.undef, V.undef, V.undef, (V.lp 4 0), (V.int Go.IntKind.i64 x2), V.undef, V.undef, V.undef, (V.bool b3), V.undef, V.undef, V.undef, V.undef, V.undef, V.undef, V.undef, V.undef, V.undef, V.undef, V.undef, V.undef, V.undef], [(4, c4)]⟩ h Q =
 ((0 + 137 ≤ (List.length c4)) ∧ (let cz10 : List V := (List.take 137 (List.drop 0 c4));
 (AnyW Try.prog 70 [(V.agg cz10)] h (fun (rz11 : V) (hz12 : Heap) =>
 (V.isTup 2 rz11 = true ∧ ((True ∧ V.isInt Go.IntKind.i64 (gv (V.vs rz11) 0) = true) ∧ (let iz13 : Int := (V.num (gv (V.vs rz11) 0));
 ((True ∧ V.isInt Go.IntKind.i64 (gv (V.vs rz11) 1) = true) ∧ (let iz14 : Int := (V.num (gv (V.vs rz11) 1));
 ((true = true) ∧ ((true = true) ∧ (Q Ex.ret ⟨[V.undef, V.undef, (V.int Go.IntKind.i64 iz13), (V.int Go.IntKind.i64 iz14), V.undef, V.undef, V.undef, V.undef, V.undef, V.undef, V.undef, V.undef, V.undef, V.undef, V.undef, V.undef, V.undef, V.undef, V.undef, V.undef, V.undef, V.undef, V.undef], []⟩ hz12)))))))))))) := wpA_at f56_n111_plug (by kernel_rfl)
theorem f56_end1 (x0 : Int) (x1 : Int) (h : Heap) (K : V → Heap → Prop) : bodyK Try.prog Try.f56 K Ex.ret ⟨[V.undef, V.undef, (V.int Go.IntKind.i64 x0), (V.int Go.IntKind.i64 x1), V.undef, V.undef, V.undef, V.undef, V.undef, V.undef, V.undef, V.undef, V.undef, V.undef, V.undef, V.undef, V.undef, V.undef, V.undef, V.undef, V.undef, V.undef, V.undef], []⟩ h = (K (V.tup [(V.int Go.IntKind.i64 x0), (V.int Go.IntKind.i64 x1)]) h) := by kernel_rfl
end

section
open Go Go.Proofs Jb
set_option linter.unusedSimpArgs false
set_option maxRecDepth 4000

theorem nilN : (V.bool false :: List.replicate 136 (V.bool false)) = bls (List.replicate 137 false) := rfl

theorem vl_set_hi (l : List Bool) (b : Bool) : vl (l.set 136 b) 136 = vl l 136 := vl_set l b (Nat.le_refl _)

theorem Of_call (x : Int) (hx : I64 x) (h : Heap) : CallW Try.prog 69 [.int .i64 x] h
    (fun r h' => (∃ O, O.length = 137 ∧ sg O = x ∧ vl O 136 < 2 ^ 64 ∧ r = .agg (bls O)) ∧ h' = h) := by
  refine CallW.body mix f69_cf Try.func69 (by rw [Try.ntmps69]; simp) ?_
  rw [f69_entry, f69_n_wp]
  unfold I64 at hx
  generalize hK : (fun (r : V) (h' : Heap) => (∃ O, O.length = 137 ∧ sg O = x ∧ vl O 136 < 2 ^ 64 ∧ r = .agg (bls O)) ∧ h' = h) = K
  have hk : ∀ O, O.length = 137 → sg O = x → vl O 136 < 2 ^ 64 → K (.agg (bls O)) h := fun O a b c => by rw [← hK]; exact ⟨⟨O, a, b, c, rfl⟩, rfl⟩
  refine ⟨trivial, trivial, trivial, by omega, ?_⟩
  rw [nilB, f69_n1111_eq, wpA_seq]
  have e1 : [V.bool false, V.bool false, V.bool false, V.bool false, V.bool false, V.bool false, V.bool false, V.bool false, V.bool false, V.bool false, V.bool false, V.bool false, V.bool false, V.bool false, V.bool false, V.bool false, V.bool false, V.bool false, V.bool false, V.bool false, V.bool false, V.bool false, V.bool false, V.bool false, V.bool false, V.bool false, V.bool false, V.bool false, V.bool false, V.bool false, V.bool false, V.bool false, V.bool false, V.bool false, V.bool false, V.bool false, V.bool false, V.bool false, V.bool false, V.bool false, V.bool false, V.bool false, V.bool false, V.bool false, V.bool false, V.bool false, V.bool false, V.bool false, V.bool false, V.bool false, V.bool false, V.bool false, V.bool false, V.bool false, V.bool false, V.bool false, V.bool false, V.bool false, V.bool false, V.bool false, V.bool false, V.bool false, V.bool false, V.bool false, V.bool false, V.bool false, V.bool false, V.bool false, V.bool false, V.bool false, V.bool false, V.bool false, V.bool false, V.bool false, V.bool false, V.bool false, V.bool false, V.bool false, V.bool false, V.bool false, V.bool false, V.bool false, V.bool false, V.bool false, V.bool false, V.bool false, V.bool false, V.bool false, V.bool false, V.bool false, V.bool false, V.bool false, V.bool false, V.bool false, V.bool false, V.bool false, V.bool false, V.bool false, V.bool false, V.bool false, V.bool false, V.bool false, V.bool false, V.bool false, V.bool false, V.bool false, V.bool false, V.bool false, V.bool false, V.bool false, V.bool false, V.bool false, V.bool false, V.bool false, V.bool false, V.bool false, V.bool false, V.bool false, V.bool false, V.bool false, V.bool false, V.bool false, V.bool false, V.bool false, V.bool false, V.bool false, V.bool false, V.bool false, V.bool false, V.bool false, V.bool false, V.bool false, V.bool false, V.bool false, V.bool false, V.bool false, V.bool (decide (x < 0))] = bls ((List.replicate 137 false).set 136 (decide (x < 0))) := rfl
  have hg : gb ((List.replicate 137 false).set 136 (decide (x < 0))) 136 = decide (x < 0) := by rw [gb_set]; simp
  have loop : wpA Try.prog f69_cf f69_n11111010 (f69_n111110100_F ((x.natAbs : Nat) : Int) 0 (bls (List.replicate 137 false)) (bls ((List.replicate 137 false).set 136 (decide (x < 0))))) h
      (blockK 0 (seqK (fun f h => wpA Try.prog f69_cf f69_n111111 f h (bodyK Try.prog Try.f69 K)) (bodyK Try.prog Try.f69 K))) := by
    rw [f69_n11111010_eq]
    have ha : x.natAbs ≤ 9223372036854775808 := by omega
    refine wpA_loop (σ := Nat × List Bool) (fun s => f69_n111110100_F ((x.natAbs / 2 ^ s.1 : Nat) : Int) s.1 (bls (List.replicate 137 false)) (bls s.2)) (fun _ => h) (fun s => 64 - s.1)
      (fun s => s.1 ≤ 64 ∧ s.2.length = 137 ∧ gb s.2 136 = decide (x < 0) ∧ (∀ j, s.1 ≤ j → j < 136 → gb s.2 j = false) ∧ vl s.2 s.1 + (x.natAbs / 2 ^ s.1) * 2 ^ s.1 = x.natAbs) (0, (List.replicate 137 false).set 136 (decide (x < 0)))
      (by simp) rfl ⟨by simp, by simp, hg, fun j _ hj => by rw [gb_set, if_neg (by omega), gb_nil], by rw [vl_zero]; simp⟩ ?_
    rintro ⟨i, O⟩ ⟨hi, hO, hn, hz, hv⟩
    simp only at hi hO hn hz hv
    simp only [f69_n111110100_F]
    rw [f69_n111110100_wp]
    by_cases hlt : i < 64
    · have hq : x.natAbs / 2 ^ i ≤ x.natAbs := Nat.div_le_self _ _
      have hs : x.natAbs / 2 ^ (i + 1) = x.natAbs / 2 ^ i / 2 := by rw [Nat.pow_succ, Nat.div_div_eq_div_mul]
      have hq3 : ∀ q : Nat, q ≤ 9223372036854775808 → ((q / 2 : Nat) : Int) % 18446744073709551616 = ((q / 2 : Nat) : Int) := fun q h => by omega
      have t1 : Int.tmod ((x.natAbs / 2 ^ i : Nat) : Int) 2 = ((x.natAbs / 2 ^ i % 2 : Nat) : Int) := rfl
      have t2 : Int.tdiv ((x.natAbs / 2 ^ i : Nat) : Int) 2 = ((x.natAbs / 2 ^ i / 2 : Nat) : Int) := rfl
      have l1 : i < 137 := by omega
      simp only [show ((i : Int) < 64) from by omega, show ((i : Int) < 136) from by omega, decide_true, brW_true, t1, t2, Int.toNat_natCast, Nat.mul_one, Nat.zero_add, bls_len, hO, bls_wr1 _ _ _ (show i < O.length from by omega), wrap_up i (by omega), seqK_normal, and_true, true_and]
      rw [wrap_u64]
      have hp : (2 : Nat) ^ (i + 1) = 2 * 2 ^ i := by rw [Nat.pow_succ]; omega
      refine ⟨by omega, by omega, by omega, by omega, (i + 1, O.set i ((((x.natAbs / 2 ^ i % 2 : Nat) : Int)) == 1)), ?_, ⟨by simp only; omega, by simp [hO], by rw [gb_set, if_neg (by omega)]; exact hn, fun j h1 h2 => by rw [gb_set, if_neg (by simp only at h1; omega)]; exact hz j (by simp only at h1; omega) h2, ?_⟩, by simp only; omega⟩
      · rw [hs, hq3 _ (Nat.le_trans hq ha)]
      · simp only
        rw [vl_succ, vl_set _ _ (Nat.le_refl _), gb_set, if_pos ⟨rfl, by omega⟩, hs, hp]
        generalize x.natAbs / 2 ^ i = q at *
        have hb : ((((q % 2 : Nat) : Int)) == 1).toNat = q % 2 := by
          rcases Nat.mod_two_eq_zero_or_one q with e | e <;> rw [e] <;> rfl
        rw [hb]
        have : q = q % 2 + 2 * (q / 2) := by omega
        have : q * 2 ^ i = (q % 2) * 2 ^ i + q / 2 * (2 * 2 ^ i) := by
          conv => lhs; rw [this]
          rw [Nat.add_mul, Nat.mul_comm 2 (q / 2), Nat.mul_assoc]
        omega
    · obtain rfl : i = 64 := by omega
      have z : x.natAbs / 2 ^ 64 = 0 := Nat.div_eq_of_lt (by omega)
      rw [z] at hv
      have hv' : vl O 136 = x.natAbs := by rw [vl_none O hz (by omega)]; omega
      simp only [show ¬ (((64 : Nat) : Int) < 64) from by omega, decide_false, brW_false, seqK_exit, blockK_exit, if_true, seqK_normal, f69_n111111_wp]
      simp only [hO, List.drop_zero, take_allB, wr_allB, f69_end1, bls_len, true_and, and_true, Nat.zero_add, List.length_replicate, seqK_ret, blockK_ret]
      refine ⟨by omega, by omega, by omega, hk O hO ?_ (by omega)⟩
      unfold sg
      rw [hn, hv']
      by_cases hx0 : x < 0 <;> simp [hx0] <;> omega
  rw [e1, f69_n11110_wp]
  simp only [bls_len, bls_flag, bls_isBool, hg, List.length_set, List.length_replicate]
  refine ⟨by simp, ?_⟩
  by_cases hx0 : x < 0
  · have w : IntKind.u64.wrap (IntKind.u64.wrap (18446744073709551615 - IntKind.u64.wrap x) + 1) = ((x.natAbs : Nat) : Int) := by
      simp only [wrap_u64]; omega
    simp only [hx0, decide_true, brW_true, w, seqK_normal, f69_n11111_eq, wpA_seq, f69_n111110_wp]
    simp only [hx0, decide_true, f69_n111110100_F] at loop
    exact loop
  · have w : IntKind.u64.wrap x = ((x.natAbs : Nat) : Int) := by simp only [wrap_u64]; omega
    simp only [hx0, decide_false, brW_false, w, seqK_normal, f69_n11111_eq, wpA_seq, f69_n111110s1_wp]
    simp only [hx0, decide_false, f69_n111110100_F] at loop
    exact loop

theorem vl_ge {N : List Bool} {i : Nat} (hb : gb N i = true) : ∀ {k : Nat}, i < k → 2 ^ i ≤ vl N k
  | 0, h => by omega
  | k + 1, h => by
    rw [vl_succ]
    by_cases e : i = k
    · subst e; rw [hb]; simp
    · have := vl_ge (k := k) hb (by omega); omega

theorem vl_mono (N : List Bool) : ∀ {i k : Nat}, i ≤ k → vl N i ≤ vl N k := by
  intro i k h
  induction k with
  | zero => obtain rfl : i = 0 := by omega
            exact Nat.le_refl _
  | succ k ih =>
    by_cases e : i = k + 1
    · subst e; exact Nat.le_refl _
    · rw [vl_succ]; have := ih (by omega); omega

/-- As a number of 64 bits, if it has room. -/
noncomputable def backR (N : List Bool) : Int × Bool :=
  if 18446744073709551616 ≤ vl N 136 then (0, false)
  else if gb N 136 = true then (if 9223372036854775808 < vl N 136 then (0, false) else (-(vl N 136 : Int), true))
  else (IntKind.i64.wrap (vl N 136), decide (vl N 136 < 9223372036854775808))

theorem Back_call (N : List Bool) (hN : N.length = 137) (h : Heap) : CallW Try.prog 81 [.agg (bls N)] h (fun r h' => r = .tup [.int .i64 (backR N).1, .bool (backR N).2] ∧ h' = h) := by
  refine CallW.body mix f81_cf Try.func81 (by rw [Try.ntmps81]; simp) ?_
  rw [f81_entry, f81_n_wp]
  generalize hK : (fun (r : V) (h' : Heap) => r = .tup [.int .i64 (backR N).1, .bool (backR N).2] ∧ h' = h) = K
  have hk : K (.tup [.int .i64 (backR N).1, .bool (backR N).2]) h := by rw [← hK]; exact ⟨rfl, rfl⟩
  refine ⟨by simp [hN], ?_⟩
  rw [f81_n1_eq, wpA_seq, f81_n10_wp, f81_n1010_eq]
  refine wpA_loop (σ := Nat) (fun i => f81_n10100_F i (bls N)) (fun _ => h) (fun i => 136 - i) (fun i => i ≤ 136 ∧ 64 ≤ i ∧ vl N i = vl N 64) 64 rfl rfl ⟨by omega, by omega, rfl⟩ ?_
  rintro i ⟨hi, hi2, hv⟩
  simp only [f81_n10100_F]
  rw [f81_n10100_wp]
  by_cases hlt : i < 136
  · simp only [show ((i : Int) < 136) from by omega, decide_true, brW_true, Int.toNat_natCast, Nat.mul_one, Nat.zero_add, bls_len, hN, bls_flag, bls_isBool, wrap_up i (by omega), and_true, true_and]
    refine ⟨by omega, ⟨by omega, by simp; omega⟩, ?_⟩
    cases hb : gb N i with
    | true =>
      have : 18446744073709551616 ≤ vl N 136 := Nat.le_trans (by have := Nat.pow_le_pow_right (show 0 < 2 from by omega) hi2; omega) (vl_ge hb hlt)
      have e : backR N = (0, false) := by unfold backR; rw [if_pos this]
      rw [e] at hk
      simp only [brW_true, seqK_ret, blockK_ret, f81_end1]
      exact hk
    | false =>
      simp only [brW_false, seqK_normal, true_and]
      exact ⟨i + 1, rfl, ⟨by omega, by omega, by rw [vl_succ, hb, hv]; simp⟩, by omega⟩
  obtain rfl : i = 136 := by omega
  have l64 := vl_lt N 64
  simp only [show ¬ (((136 : Nat) : Int) < 136) from by omega, decide_false, brW_false, seqK_exit, blockK_exit, if_true, seqK_normal]
  rw [f81_n11_wp, f81_n111_eq, wpA_seq, f81_n1110_wp, f81_n111010_eq]
  refine wpA_loop (σ := Nat × Nat) (fun s => f81_n1110100_F (s.2 : Nat) ((s.1 : Int) - 1) (bls N)) (fun _ => h) (fun s => s.1) (fun s => s.1 ≤ 64 ∧ vl N 64 = vl N s.1 + s.2 * 2 ^ s.1) (64, 0) rfl rfl ⟨by simp, by simp⟩ ?_
  rintro ⟨k, u⟩ ⟨hk1, hu⟩
  simp only at hk1 hu
  simp only [f81_n1110100_F]
  rw [f81_n1110100_wp]
  match k with
  | 0 =>
    rw [vl_zero] at hu
    have hu' : vl N 136 = u := by omega
    simp only [show ¬ ((0 : Int) ≤ ((0 : Nat) : Int) - 1) from by omega, decide_false, brW_false, seqK_exit, blockK_exit, if_true, seqK_normal, f81_n1111_wp, bls_len, hN, bls_flag, bls_isBool]
    refine ⟨by simp, ?_⟩
    have lt : ¬ 18446744073709551616 ≤ vl N 136 := by omega
    unfold backR at hk
    rw [if_neg lt] at hk
    cases hn : gb N 136 with
    | true =>
      rw [hn, if_pos rfl, hu'] at hk
      by_cases hc : 9223372036854775808 < u
      · rw [if_pos hc] at hk
        simp only [brW_true, show ((9223372036854775808 : Int) < (u : Int)) from by omega, decide_true, f81_end1]
        exact hk
      · rw [if_neg hc] at hk
        have w : IntKind.i64.wrap (IntKind.u64.wrap (IntKind.u64.wrap (18446744073709551615 - (u : Int)) + 1)) = -(u : Int) := by
          simp only [wrap_u64, wrap_i64]; omega
        simp only [brW_true, brW_false, show ¬ ((9223372036854775808 : Int) < (u : Int)) from by omega, decide_false, f81_end1, w]
        exact hk
    | false =>
      rw [hn, if_neg (by simp), hu'] at hk
      simp only [brW_false, f81_end1]
      have : decide ((u : Int) < 9223372036854775808) = decide (u < 9223372036854775808) := by
        by_cases h : u < 9223372036854775808 <;> simp [h] <;> omega
      rw [this]
      exact hk
  | k + 1 =>
    have hw : IntKind.i64.wrap ((((k + 1 : Nat) : Int) - 1) - 1) = (k : Int) - 1 := by rw [Go.IntWalk.i64_in] <;> omega
    have ht : (((k + 1 : Nat) : Int) - 1).toNat = k := by omega
    have hp : (2 : Nat) ^ (k + 1) = 2 * 2 ^ k := by rw [Nat.pow_succ]; omega
    have hp0 := Nat.two_pow_pos k
    have e : vl N 64 = vl N k + (2 * u + (gb N k).toNat) * 2 ^ k := by
      rw [hu, vl_succ, hp, Nat.add_mul, ← Nat.mul_assoc, Nat.mul_comm u 2]; omega
    have b : 2 * u + (gb N k).toNat ≤ vl N 64 := by
      rw [e]
      have := Nat.le_mul_of_pos_right (2 * u + (gb N k).toNat) hp0
      omega
    simp only [show ((0 : Int) ≤ ((k + 1 : Nat) : Int) - 1) from by omega, decide_true, brW_true]
    rw [f81_n11101001_eq, wpA_seq, f81_n111010010_wp]
    simp only [ht, Nat.mul_one, Nat.zero_add, bls_len, hN, bls_flag, bls_isBool]
    refine ⟨by omega, ⟨by omega, by simp; omega⟩, ?_⟩
    cases hb : gb N k with
    | true =>
      rw [hb] at e b
      simp only [Bool.toNat_true] at e b
      simp only [brW_true, seqK_normal, f81_n111010011_wp, hw]
      refine ⟨(k, 2 * u + 1), ?_, trivial, ⟨by simp only; omega, e⟩, by simp only; omega⟩
      simp only
      rw [wrap_u64, wrap_u64, show ((2 * (u : Int)) % 18446744073709551616 + 1) % 18446744073709551616 = ((2 * u + 1 : Nat) : Int) from by omega]
    | false =>
      rw [hb] at e b
      simp only [Bool.toNat_false, Nat.add_zero] at e b
      simp only [brW_false, seqK_normal, f81_n111010011s1_wp, hw]
      refine ⟨(k, 2 * u), ?_, trivial, ⟨by simp only; omega, e⟩, by simp only; omega⟩
      simp only
      rw [wrap_u64, show (2 * (u : Int)) % 18446744073709551616 = ((2 * u : Nat) : Int) from by omega]
end

section
open Go Go.Proofs Jb
set_option linter.unusedSimpArgs false
set_option maxRecDepth 4000

theorem e81 : enters Try.prog 81 = true := by kernel_rfl
theorem e80 : enters Try.prog 80 = true := by kernel_rfl
theorem e79 : enters Try.prog 79 = true := by kernel_rfl
theorem e78 : enters Try.prog 78 = true := by kernel_rfl
theorem e77 : enters Try.prog 77 = true := by kernel_rfl
theorem e70 : enters Try.prog 70 = true := by kernel_rfl
theorem e69 : enters Try.prog 69 = true := by kernel_rfl
theorem e68 : enters Try.prog 68 = true := by kernel_rfl

theorem gb_set_hi {O : List Bool} (hO : O.length = 137) (b : Bool) : gb (O.set 136 b) 136 = b := by rw [gb_set, if_pos ⟨rfl, by omega⟩]

/-- A number that has room. -/
noncomputable def toldR (z : Int) : Int × Int := if -9223372036854775808 ≤ z ∧ z ≤ 9223372036854775807 then (z, 0) else (0, 10)

theorem told_call (N : List Bool) (hN : N.length = 137) (h : Heap) : CallW Try.prog 70 [.agg (bls N)] h (fun r h' => r = .tup [.int .i64 (toldR (sg N)).1, .int .i64 (toldR (sg N)).2] ∧ h' = h) := by
  refine CallW.body mix f70_cf Try.func70 (by rw [Try.ntmps70]; simp) ?_
  rw [f70_entry, f70_n_wp]
  refine ⟨by simp [hN], by simp [hN], ?_⟩
  simp only [List.drop_zero, take_allB hN]
  refine AnyW.eq e81 (Back_call N hN h) ?_
  simp
  unfold backR toldR sg
  by_cases h1 : 18446744073709551616 ≤ vl N 136
  · rw [if_pos h1]
    have : ¬ (-9223372036854775808 ≤ (if gb N 136 = true then -(vl N 136 : Int) else vl N 136) ∧ (if gb N 136 = true then -(vl N 136 : Int) else vl N 136) ≤ 9223372036854775807) := by split <;> omega
    rw [if_neg this]
    simp [f70_end1]
  · rw [if_neg h1]
    cases hn : gb N 136 with
    | true =>
      simp only [if_true]
      by_cases h2 : 9223372036854775808 < vl N 136
      · rw [if_pos h2, if_neg (by omega)]
        simp [f70_end1]
      · rw [if_neg h2, if_pos (by omega)]
        simp [f70_end1]
    | false =>
      simp only [Bool.false_eq_true, if_false]
      by_cases h2 : vl N 136 < 9223372036854775808
      · rw [if_pos (by omega)]
        simp [h2, f70_end1]
        rw [wrap_i64]; omega
      · rw [if_neg (by omega)]
        simp [h2, f70_end1]

theorem Plus_call (N M : List Bool) (hN : N.length = 137) (hM : M.length = 137) (hb : vl N 136 + vl M 136 < 2 ^ 136) (h : Heap) : CallW Try.prog 68 [.agg (bls N), .agg (bls M)] h
    (fun r h' => (∃ O, O.length = 137 ∧ sg O = sg N + sg M ∧ vl O 136 ≤ vl N 136 + vl M 136 ∧ r = .agg (bls O)) ∧ h' = h) := by
  refine CallW.body mix f68_cf Try.func68 (by rw [Try.ntmps68]; simp) ?_
  rw [f68_entry, f68_n_wp]
  generalize hK : (fun (r : V) (h' : Heap) => (∃ O, O.length = 137 ∧ sg O = sg N + sg M ∧ vl O 136 ≤ vl N 136 + vl M 136 ∧ r = .agg (bls O)) ∧ h' = h) = K
  have hk : ∀ O, O.length = 137 → sg O = sg N + sg M → vl O 136 ≤ vl N 136 + vl M 136 → K (.agg (bls O)) h := fun O a b c => by rw [← hK]; exact ⟨⟨O, a, b, c, rfl⟩, rfl⟩
  refine ⟨by simp [hN], by simp [hM], trivial, trivial, ?_⟩
  rw [nilB, f68_n11_eq, wpA_seq, f68_n110_wp]
  -- what stands behind
  have rest : ∀ O, O.length = 137 → sg O = sg N + sg M → vl O 136 ≤ vl N 136 + vl M 136 → wpA Try.prog f68_cf f68_n111 (f68_n111_F (bls (List.replicate 137 false)) (bls O)) h (bodyK Try.prog Try.f68 K) := by
    intro O hO h1 h2
    rw [f68_n111_eq, wpA_seq]
    simp only [f68_n111_F]
    rw [f68_n1110_wp]
    simp only [bls_len, bls_flag, bls_isBool, hO, List.drop_zero, take_allB hO, bls_wr1 O 136 _ (by omega), Nat.zero_add]
    refine ⟨by simp, fun _ => by omega, ?_⟩
    have fin : ∀ b, (vl O 136 ≠ 0 → b = gb O 136) → K (.agg (bls (O.set 136 b))) h := fun b e => by
      refine hk _ (by simp [hO]) ?_ (by rw [vl_set_hi]; exact h2)
      rw [← h1]
      unfold sg
      rw [vl_set_hi, gb_set_hi hO]
      by_cases z : vl O 136 = 0
      · rw [z]; simp
      · rw [e z]
    cases hg : gb O 136 with
    | true =>
      simp
      refine AnyW.eq e80 (nought_call O hO h) ?_
      have l : ∀ b, (O.set 136 b).length = 137 := fun b => by simp [hO]
      simp [f68_n1111_wp, f68_end1, hO, l, take_allB, wr_allB]
      exact fin _ (fun z => by simp [z, hg])
    | false =>
      have l : ∀ b, (O.set 136 b).length = 137 := fun b => by simp [hO]
      simp [f68_n1111_wp, f68_end1, hO, l, take_allB, wr_allB]
      exact fin _ (fun z => by simp [hg])
  simp only [f68_n111_F] at rest
  simp only [bls_len, bls_flag, bls_isBool, hN, hM, List.drop_zero, take_allB hN, take_allB hM, List.length_replicate, Nat.zero_add]
  refine ⟨by simp, by simp, ?_⟩
  by_cases hs : gb N 136 = gb M 136
  · have e : (gb N 136 == gb M 136) = true := by simp [hs]
    simp only [e, brW_true]
    refine ⟨by omega, by omega, AnyW.call e77 ((more_call N M hN hM h).mono ?_)⟩
    rintro r h' ⟨⟨O, hO, hg, hv, rfl⟩, rfl⟩
    have hv : vl O 136 = vl N 136 + vl M 136 := by have := vl_lt O 136; omega
    have w : wrCells (bls (List.replicate 137 false)) 0 (bls O) = bls O := wr_allB (by simp) hO
    simp only [cells_agg, w, bls_wr1 O 136 _ (show 136 < O.length by omega), bls_len, hO, isAgg_agg, decide_true, and_true, true_and, seqK_normal]
    refine ⟨by omega, by simp, by omega, rest _ (by simp [hO]) ?_ (by rw [vl_set_hi]; omega)⟩
    unfold sg
    rw [vl_set_hi, gb_set_hi hO, ← hs, hv]
    cases gb N 136 <;> simp <;> omega
  · have e : (gb N 136 == gb M 136) = false := by simp [hs]
    simp only [e, brW_false]
    refine ⟨by omega, by omega, AnyW.eq e78 (below_call N M hN hM h) ?_⟩
    by_cases hl : vl N 136 < vl M 136
    · simp only [hl, decide_true, isBool_bool, flag_bool, brW_true, true_and]
      refine ⟨by omega, by omega, AnyW.call e79 ((less_call M N hM hN (by omega) h).mono ?_)⟩
      rintro r h' ⟨⟨O, hO, hg, hv, rfl⟩, rfl⟩
      have w : wrCells (bls (List.replicate 137 false)) 0 (bls O) = bls O := wr_allB (by simp) hO
      simp only [cells_agg, w, bls_wr1 O 136 _ (show 136 < O.length by omega), bls_len, hO, isAgg_agg, decide_true, and_true, true_and, seqK_normal]
      refine ⟨by omega, by simp, by omega, rest _ (by simp [hO]) ?_ (by rw [vl_set_hi]; omega)⟩
      unfold sg
      rw [vl_set_hi, gb_set_hi hO]
      cases hn : gb N 136 <;> cases hm : gb M 136 <;> simp_all <;> omega
    · simp only [hl, decide_false, isBool_bool, flag_bool, brW_false, true_and]
      refine ⟨by omega, by omega, AnyW.call e79 ((less_call N M hN hM (by omega) h).mono ?_)⟩
      rintro r h' ⟨⟨O, hO, hg, hv, rfl⟩, rfl⟩
      have w : wrCells (bls (List.replicate 137 false)) 0 (bls O) = bls O := wr_allB (by simp) hO
      simp only [cells_agg, w, bls_wr1 O 136 _ (show 136 < O.length by omega), bls_len, hO, isAgg_agg, decide_true, and_true, true_and, seqK_normal]
      refine ⟨by omega, by simp, by omega, rest _ (by simp [hO]) ?_ (by rw [vl_set_hi]; omega)⟩
      unfold sg
      rw [vl_set_hi, gb_set_hi hO]
      cases hn : gb N 136 <;> cases hm : gb M 136 <;> simp_all <;> omega
end

section
set_option linter.all false
set_option maxRecDepth 100000
open Go Go.Proofs Jb
def f39_cf : Cfg := ⟨[4], [(0, [0, 9]), (1, [12, 13, 14, 15, 16, 17, 18, 19, 20]), (2, [1, 2, 3, 4, 21, 22]), (3, [1, 2, 10, 21, 23, 24, 25, 26, 27, 28, 29, 30]), (4, [31, 32, 33, 34]), (5, [3, 4, 11, 35, 36]), (6, [3, 11, 35, 37, 38, 39, 40, 41, 42]), (7, [4, 43])]⟩
noncomputable def f39_b : Code := bodyOf Try.f39
noncomputable def f39_n : Code :=  (codeAt [] f39_b)
noncomputable def f39_n1 : Code := hide (codeAt [1] f39_b)
noncomputable def f39_n10 : Code := hide (codeAt [1, 0] f39_b)
noncomputable def f39_n100 : Code := hide (codeAt [1, 0, 0] f39_b)
noncomputable def f39_n101 : Code := hide (codeAt [1, 0, 1] f39_b)
noncomputable def f39_n11 : Code := hide (codeAt [1, 1] f39_b)
theorem f39_entry (t : List Int) (x : Int) (s : Int) (n : Int) (h : Heap) (K : V → Heap → Prop) : bodyW Try.prog f39_cf Try.f39 [(V.agg (ints t)), (V.int Go.IntKind.i64 x), (V.int Go.IntKind.i64 s), (V.int Go.IntKind.i64 n)] h K = wpA Try.prog f39_cf f39_n ⟨[(V.agg (ints t)), (V.int Go.IntKind.i64 x), (V.int Go.IntKind.i64 s), (V.int Go.IntKind.i64 n), V.undef, V.undef, V.undef, V.undef, V.undef, V.undef, V.undef, V.undef, V.undef, V.undef, V.undef, V.undef, V.undef, V.undef, V.undef, V.undef, V.undef, V.undef, V.undef, V.undef, V.undef, V.undef, V.undef, V.undef, V.undef, V.undef, V.undef, V.undef, V.undef, V.undef, V.undef, V.undef, V.undef, V.undef, V.undef, V.undef, V.undef, V.undef, V.undef, V.undef], []⟩ h (bodyK Try.prog Try.f39 K) := by kernel_rfl
theorem f39_n_plug : f39_n = (plug [1] (codeAt [] f39_b) f39_n1) := by
  simp only [f39_n, f39_n1, hide_eq]
  try kernel_rfl
theorem f39_n_wp (t : List Int) (x : Int) (s : Int) (n : Int) (h : Heap) (Q : Ex → Fr → Heap → Prop) : wpA Try.prog f39_cf f39_n ⟨[(V.agg (ints t)), (V.int Go.IntKind.i64 x), (V.int Go.IntKind.i64 s), (V.int Go.IntKind.i64 n), V.undef, V.undef, V.undef, V.undef, V.undef, V.undef, V.undef, V.undef, V.undef, V.undef, V.undef, V.undef, V.undef, V.undef, V.undef, V.undef, V.undef, V.undef, V.undef, V.undef, V.undef, V.undef, V.undef, V.undef, V.undef, V.undef, V.undef, V.undef, V.undef, V.undef, V.undef, V.undef, V.undef, V.undef, V.undef, V.undef, V.undef, V.undef, V.undef, V.undef], []⟩ h Q =
 (((List.length (ints t)) = 49) ∧ (∀ lz1 : Nat, h lz1 = none → (let hz2 : Heap := (Heap.upd h lz1 (Ob.cells (ints t)));
 (True ∧ (wpA Try.prog f39_cf f39_n1 ⟨[V.undef, (V.int Go.IntKind.i64 x), (V.int Go.IntKind.i64 s), (V.int Go.IntKind.i64 n), (V.ptr lz1 0), V.undef, V.undef, V.undef, (V.lp 8 0), V.undef, V.undef, V.undef, V.undef, V.undef, V.undef, V.undef, V.undef, V.undef, V.undef, V.undef, V.undef, V.undef, V.undef, V.undef, V.undef, V.undef, V.undef, V.undef, V.undef, V.undef, V.undef, V.undef, V.undef, V.undef, V.undef, V.undef, V.undef, V.undef, V.undef, V.undef, V.undef, V.undef, V.undef, V.undef], [(8, [(V.int Go.IntKind.i64 (0 : Int)), (V.int Go.IntKind.i64 (0 : Int)), (V.int Go.IntKind.i64 (0 : Int)), (V.int Go.IntKind.i64 (0 : Int)), (V.int Go.IntKind.i64 (0 : Int)), (V.int Go.IntKind.i64 (0 : Int)), (V.int Go.IntKind.i64 (0 : Int)), (V.int Go.IntKind.i64 (0 : Int)), (V.int Go.IntKind.i64 (0 : Int)), (V.int Go.IntKind.i64 (0 : Int)), (V.int Go.IntKind.i64 (0 : Int)), (V.int Go.IntKind.i64 (0 : Int)), (V.int Go.IntKind.i64 (0 : Int)), (V.int Go.IntKind.i64 (0 : Int)), (V.int Go.IntKind.i64 (0 : Int)), (V.int Go.IntKind.i64 (0 : Int)), (V.int Go.IntKind.i64 (0 : Int)), (V.int Go.IntKind.i64 (0 : Int)), (V.int Go.IntKind.i64 (0 : Int)), (V.int Go.IntKind.i64 (0 : Int)), (V.int Go.IntKind.i64 (0 : Int)), (V.int Go.IntKind.i64 (0 : Int)), (V.int Go.IntKind.i64 (0 : Int)), (V.int Go.IntKind.i64 (0 : Int)), (V.int Go.IntKind.i64 (0 : Int)), (V.int Go.IntKind.i64 (0 : Int)), (V.int Go.IntKind.i64 (0 : Int)), (V.int Go.IntKind.i64 (0 : Int)), (V.int Go.IntKind.i64 (0 : Int)), (V.int Go.IntKind.i64 (0 : Int)), (V.int Go.IntKind.i64 (0 : Int)), (V.int Go.IntKind.i64 (0 : Int)), (V.int Go.IntKind.i64 (0 : Int)), (V.int Go.IntKind.i64 (0 : Int)), (V.int Go.IntKind.i64 (0 : Int)), (V.int Go.IntKind.i64 (0 : Int)), (V.int Go.IntKind.i64 (0 : Int)), (V.int Go.IntKind.i64 (0 : Int)), (V.int Go.IntKind.i64 (0 : Int)), (V.int Go.IntKind.i64 (0 : Int)), (V.int Go.IntKind.i64 (0 : Int)), (V.int Go.IntKind.i64 (0 : Int)), (V.int Go.IntKind.i64 (0 : Int)), (V.int Go.IntKind.i64 (0 : Int)), (V.int Go.IntKind.i64 (0 : Int)), (V.int Go.IntKind.i64 (0 : Int)), (V.int Go.IntKind.i64 (0 : Int)), (V.int Go.IntKind.i64 (0 : Int)), (V.int Go.IntKind.i64 (0 : Int))])]⟩ hz2 Q))))) := wpA_at f39_n_plug (by kernel_rfl)
theorem f39_n1_eq : f39_n1 = Code.seq f39_n10 f39_n11 := by
  simp only [f39_n1, f39_n10, f39_n11, hide_eq]
  kernel_rfl
theorem f39_n10_eq : f39_n10 = Code.seq f39_n100 f39_n101 := by
  simp only [f39_n10, f39_n100, f39_n101, hide_eq]
  kernel_rfl
theorem f39_n100_plug : f39_n100 = (codeAt [1, 0, 0] f39_b) := by
  simp only [f39_n100, hide_eq]
  try kernel_rfl
theorem f39_n100_wp (x0 : Int) (x1 : Int) (x2 : Int) (l3 : Nat) (c4 : List V) (h : Heap) (Q : Ex → Fr → Heap → Prop) : wpA Try.prog f39_cf f39_n100 ⟨[V.undef, (V.int Go.IntKind.i64 x0), (V.int Go.IntKind.i64 x1), (V.int Go.IntKind.i64 x2), (V.ptr l3 0), V.undef, V.undef, V.undef, (V.lp 8 0), V.undef, V.undef, V.undef, V.undef, V.undef, V.undef, V.undef, V.undef, V.undef, V.undef, V.undef, V.undef, V.undef, V.undef, V.undef, V.undef, V.undef, V.undef, V.undef, V.undef, V.undef, V.undef, V.undef, V.undef, V.undef, V.undef, V.undef, V.undef, V.undef, V.undef, V.undef, V.undef, V.undef, V.undef, V.undef], [(8, c4)]⟩ h Q =
 (AnyW Try.prog 32 [(V.int Go.IntKind.i64 x0), (V.int Go.IntKind.i64 x1)] h (fun (rz3 : V) (hz4 : Heap) =>
 ((True ∧ V.isBool rz3 = true) ∧ (((!(!(V.flag rz3))) = true → (!(!(V.flag rz3))) = true) ∧ (((!(!(V.flag rz3))) = true → (True ∧ True)) ∧ (let kz5 : Bool → Heap → Prop := fun (xz6 : Bool) (hz7 : Heap) =>
 (((!(!(V.flag rz3))) = true → (!(!(V.flag rz3))) = true) ∧ ((((!(V.flag rz3)) = false → (!(!(V.flag rz3))) = true) ∧ True) ∧ (let bz8 : Bool := (cond (!(V.flag rz3)) true (!xz6));
 (Q Ex.normal ⟨[V.undef, (V.int Go.IntKind.i64 x0), (V.int Go.IntKind.i64 x1), (V.int Go.IntKind.i64 x2), (V.ptr l3 0), V.undef, V.undef, V.undef, (V.lp 8 0), V.undef, V.undef, V.undef, V.undef, V.undef, V.undef, V.undef, V.undef, V.undef, V.undef, V.undef, V.undef, (V.bool bz8), V.undef, V.undef, V.undef, V.undef, V.undef, V.undef, V.undef, V.undef, V.undef, V.undef, V.undef, V.undef, V.undef, V.undef, V.undef, V.undef, V.undef, V.undef, V.undef, V.undef, V.undef, V.undef], [(8, c4)]⟩ hz7))));
 brW (!(!(V.flag rz3)))
 (((!(!(V.flag rz3))) = true) ∧ (AnyW Try.prog 24 [(V.sl 1 [[(V.int Go.IntKind.i64 x2)]] G.full)] hz4 (fun (rz9 : V) (hz10 : Heap) =>
 ((True ∧ V.isBool rz9 = true) ∧ (kz5 (V.flag rz9) hz10)))))
 (kz5 false hz4))))))) := wpA_at f39_n100_plug (by kernel_rfl)
theorem f39_n101_plug : f39_n101 = (codeAt [1, 0, 1] f39_b) := by
  simp only [f39_n101, hide_eq]
  try kernel_rfl
theorem f39_n101_wp (x0 : Int) (x1 : Int) (x2 : Int) (l3 : Nat) (b4 : Bool) (c5 : List V) (h : Heap) (Q : Ex → Fr → Heap → Prop) : wpA Try.prog f39_cf f39_n101 ⟨[V.undef, (V.int Go.IntKind.i64 x0), (V.int Go.IntKind.i64 x1), (V.int Go.IntKind.i64 x2), (V.ptr l3 0), V.undef, V.undef, V.undef, (V.lp 8 0), V.undef, V.undef, V.undef, V.undef, V.undef, V.undef, V.undef, V.undef, V.undef, V.undef, V.undef, V.undef, (V.bool b4), V.undef, V.undef, V.undef, V.undef, V.undef, V.undef, V.undef, V.undef, V.undef, V.undef, V.undef, V.undef, V.undef, V.undef, V.undef, V.undef, V.undef, V.undef, V.undef, V.undef, V.undef, V.undef], [(8, c5)]⟩ h Q =
 (brW b4
 ((0 + 49 ≤ (List.length (cellsAt h l3))) ∧ (let cz11 : List V := (List.take 49 (List.drop 0 (cellsAt h l3)));
 (((List.length cz11) = 49) ∧ 0 + 49 ≤ (List.length c5) ∧ (Q Ex.ret ⟨[V.undef, V.undef, V.undef, V.undef, V.undef, V.undef, V.undef, V.undef, (V.lp 8 0), (V.int Go.IntKind.i64 (2 : Int)), V.undef, V.undef, V.undef, V.undef, V.undef, V.undef, V.undef, V.undef, V.undef, V.undef, V.undef, V.undef, V.undef, V.undef, V.undef, V.undef, V.undef, V.undef, V.undef, V.undef, V.undef, V.undef, V.undef, V.undef, V.undef, V.undef, V.undef, V.undef, V.undef, V.undef, V.undef, V.undef, V.undef, V.undef], [(8, (wrCells c5 0 cz11))]⟩ h))))
 (Q Ex.normal ⟨[V.undef, (V.int Go.IntKind.i64 x0), (V.int Go.IntKind.i64 x1), (V.int Go.IntKind.i64 x2), (V.ptr l3 0), V.undef, V.undef, V.undef, (V.lp 8 0), V.undef, V.undef, V.undef, V.undef, V.undef, V.undef, V.undef, V.undef, V.undef, V.undef, V.undef, V.undef, (V.bool b4), V.undef, V.undef, V.undef, V.undef, V.undef, V.undef, V.undef, V.undef, V.undef, V.undef, V.undef, V.undef, V.undef, V.undef, V.undef, V.undef, V.undef, V.undef, V.undef, V.undef, V.undef, V.undef], [(8, c5)]⟩ h)) := wpA_at f39_n101_plug (by kernel_rfl)
theorem f39_n11_plug : f39_n11 = (codeAt [1, 1] f39_b) := by
  simp only [f39_n11, hide_eq]
  try kernel_rfl
theorem f39_n11_wp (x0 : Int) (x1 : Int) (x2 : Int) (l3 : Nat) (b4 : Bool) (c5 : List V) (h : Heap) (Q : Ex → Fr → Heap → Prop) : wpA Try.prog f39_cf f39_n11 ⟨[V.undef, (V.int Go.IntKind.i64 x0), (V.int Go.IntKind.i64 x1), (V.int Go.IntKind.i64 x2), (V.ptr l3 0), V.undef, V.undef, V.undef, (V.lp 8 0), V.undef, V.undef, V.undef, V.undef, V.undef, V.undef, V.undef, V.undef, V.undef, V.undef, V.undef, V.undef, (V.bool b4), V.undef, V.undef, V.undef, V.undef, V.undef, V.undef, V.undef, V.undef, V.undef, V.undef, V.undef, V.undef, V.undef, V.undef, V.undef, V.undef, V.undef, V.undef, V.undef, V.undef, V.undef, V.undef], [(8, c5)]⟩ h Q =
 ((0 ≤ x0 ∧ x0 < 8) ∧ (AnyW Try.prog 33 [(V.ptr l3 (0 + ((Int.toNat x0) * 6))), (V.int Go.IntKind.i64 x1)] h (fun (rz12 : V) (hz13 : Heap) =>
 (V.isTup 2 rz12 = true ∧ (ptrK (gv (V.vs rz12) 0) (fun (lz14 oz15 : Nat) =>
 (ptrK (gv (V.vs rz12) 1) (fun (lz24 oz25 : Nat) =>
 ((true = true) ∧ ((true = true) ∧ ((oz25 < (List.length (cellsAt hz13 lz24)) ∧ V.isInt Go.IntKind.i64 (gv (cellsAt hz13 lz24) oz25) = true) ∧ (let iz26 : Int := (V.num (gv (cellsAt hz13 lz24) oz25));
 (brW (decide (iz26 < x2))
 ((0 + 49 ≤ (List.length (cellsAt hz13 l3))) ∧ (let cz27 : List V := (List.take 49 (List.drop 0 (cellsAt hz13 l3)));
 (((List.length cz27) = 49) ∧ 0 + 49 ≤ (List.length c5) ∧ (Q Ex.ret ⟨[V.undef, V.undef, V.undef, V.undef, V.undef, V.undef, V.undef, V.undef, (V.lp 8 0), (V.int Go.IntKind.i64 (53 : Int)), V.undef, V.undef, V.undef, V.undef, V.undef, V.undef, V.undef, V.undef, V.undef, V.undef, V.undef, V.undef, V.undef, V.undef, V.undef, V.undef, V.undef, V.undef, V.undef, V.undef, V.undef, V.undef, V.undef, V.undef, V.undef, V.undef, V.undef, V.undef, V.undef, V.undef, V.undef, V.undef, V.undef, V.undef], [(8, (wrCells c5 0 cz27))]⟩ hz13))))
 ((oz25 < (List.length (cellsAt hz13 lz24)) ∧ V.isInt Go.IntKind.i64 (gv (cellsAt hz13 lz24) oz25) = true) ∧ (let iz28 : Int := (V.num (gv (cellsAt hz13 lz24) oz25));
 (let iz29 : Int := (Go.IntKind.wrap Go.IntKind.i64 (iz28 - x2));
 (True ∧ oz25 + 1 ≤ (List.length (cellsAt hz13 lz24)) ∧ (let hz30 : Heap := (Heap.upd hz13 lz24 (Ob.cells (wrCells (cellsAt hz13 lz24) oz25 [(V.int Go.IntKind.i64 iz29)])));
 ((0 + 49 ≤ (List.length (cellsAt hz30 l3))) ∧ (let cz31 : List V := (List.take 49 (List.drop 0 (cellsAt hz30 l3)));
 (((List.length cz31) = 49) ∧ 0 + 49 ≤ (List.length c5) ∧ (Q Ex.ret ⟨[V.undef, V.undef, V.undef, V.undef, V.undef, V.undef, V.undef, V.undef, (V.lp 8 0), (V.int Go.IntKind.i64 (0 : Int)), V.undef, V.undef, V.undef, V.undef, V.undef, V.undef, V.undef, V.undef, V.undef, V.undef, V.undef, V.undef, V.undef, V.undef, V.undef, V.undef, V.undef, V.undef, V.undef, V.undef, V.undef, V.undef, V.undef, V.undef, V.undef, V.undef, V.undef, V.undef, V.undef, V.undef, V.undef, V.undef, V.undef, V.undef], [(8, (wrCells c5 0 cz31))]⟩ hz30)))))))))))))))
 ((true = true) ∧ ((true = true) ∧ False))))
 (ptrK (gv (V.vs rz12) 1) (fun (lz16 oz17 : Nat) =>
 ((true = true) ∧ ((true = true) ∧ ((oz17 < (List.length (cellsAt hz13 lz16)) ∧ V.isInt Go.IntKind.i64 (gv (cellsAt hz13 lz16) oz17) = true) ∧ (let iz18 : Int := (V.num (gv (cellsAt hz13 lz16) oz17));
 (brW (decide (iz18 < x2))
 ((0 + 49 ≤ (List.length (cellsAt hz13 l3))) ∧ (let cz19 : List V := (List.take 49 (List.drop 0 (cellsAt hz13 l3)));
 (((List.length cz19) = 49) ∧ 0 + 49 ≤ (List.length c5) ∧ (Q Ex.ret ⟨[V.undef, V.undef, V.undef, V.undef, V.undef, V.undef, V.undef, V.undef, (V.lp 8 0), (V.int Go.IntKind.i64 (53 : Int)), V.undef, V.undef, V.undef, V.undef, V.undef, V.undef, V.undef, V.undef, V.undef, V.undef, V.undef, V.undef, V.undef, V.undef, V.undef, V.undef, V.undef, V.undef, V.undef, V.undef, V.undef, V.undef, V.undef, V.undef, V.undef, V.undef, V.undef, V.undef, V.undef, V.undef, V.undef, V.undef, V.undef, V.undef], [(8, (wrCells c5 0 cz19))]⟩ hz13))))
 ((oz17 < (List.length (cellsAt hz13 lz16)) ∧ V.isInt Go.IntKind.i64 (gv (cellsAt hz13 lz16) oz17) = true) ∧ (let iz20 : Int := (V.num (gv (cellsAt hz13 lz16) oz17));
 (let iz21 : Int := (Go.IntKind.wrap Go.IntKind.i64 (iz20 - x2));
 (True ∧ oz17 + 1 ≤ (List.length (cellsAt hz13 lz16)) ∧ (let hz22 : Heap := (Heap.upd hz13 lz16 (Ob.cells (wrCells (cellsAt hz13 lz16) oz17 [(V.int Go.IntKind.i64 iz21)])));
 ((0 + 49 ≤ (List.length (cellsAt hz22 l3))) ∧ (let cz23 : List V := (List.take 49 (List.drop 0 (cellsAt hz22 l3)));
 (((List.length cz23) = 49) ∧ 0 + 49 ≤ (List.length c5) ∧ (Q Ex.ret ⟨[V.undef, V.undef, V.undef, V.undef, V.undef, V.undef, V.undef, V.undef, (V.lp 8 0), (V.int Go.IntKind.i64 (0 : Int)), V.undef, V.undef, V.undef, V.undef, V.undef, V.undef, V.undef, V.undef, V.undef, V.undef, V.undef, V.undef, V.undef, V.undef, V.undef, V.undef, V.undef, V.undef, V.undef, V.undef, V.undef, V.undef, V.undef, V.undef, V.undef, V.undef, V.undef, V.undef, V.undef, V.undef, V.undef, V.undef, V.undef, V.undef], [(8, (wrCells c5 0 cz23))]⟩ hz22)))))))))))))))
 ((true = true) ∧ ((true = true) ∧ False)))))))) := wpA_at f39_n11_plug (by kernel_rfl)
theorem f39_end1 (x0 : Int) (c1 : List V) (h : Heap) (K : V → Heap → Prop) : bodyK Try.prog Try.f39 K Ex.ret ⟨[V.undef, V.undef, V.undef, V.undef, V.undef, V.undef, V.undef, V.undef, (V.lp 8 0), (V.int Go.IntKind.i64 x0), V.undef, V.undef, V.undef, V.undef, V.undef, V.undef, V.undef, V.undef, V.undef, V.undef, V.undef, V.undef, V.undef, V.undef, V.undef, V.undef, V.undef, V.undef, V.undef, V.undef, V.undef, V.undef, V.undef, V.undef, V.undef, V.undef, V.undef, V.undef, V.undef, V.undef, V.undef, V.undef, V.undef, V.undef], [(8, c1)]⟩ h = ((0 + 49 ≤ (List.length c1)) ∧ (let cz32 : List V := (List.take 49 (List.drop 0 c1));
 (K (V.tup [(V.agg cz32), (V.int Go.IntKind.i64 x0)]) h))) := by kernel_rfl
end
