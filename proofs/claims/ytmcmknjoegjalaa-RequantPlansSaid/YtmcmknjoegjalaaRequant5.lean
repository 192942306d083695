/- Proved here: of Requant5, that what the Go functions of this part compute is as their contracts say (texts Qf, Qg, S61, S46, Qh, S22, S23, S45, S16, S44, S20, Rd, S18, Re, S19, S21, Rf, S17), for every input; no condition beyond those that each theorem states. -/
import Derived.Test.YtmcmknjoegjalaaRequant3
import Derived.Test.YtmcmknjoegjalaaRequant4
import Derived.Test.YtmcmknjoegjalaaRequant2
import Derived.KernelRfl
import Derived.Test.YtmcmknjoegjalaaProg
set_option linter.all false
section
open Go Go.Proofs Jb
set_option linter.unusedSimpArgs false

theorem wrapU (n : Int) : IntKind.u64.wrap n = n % 18446744073709551616 := by simp [IntKind.wrap, IntKind.bits, IntKind.signed]
theorem mid_eq (x y : Nat) (h : x + y < 4611686018427387904) : IntKind.i64.wrap (Int.fdiv (IntKind.u64.wrap (IntKind.i64.wrap ((x : Int) + (y : Int)))) (2 ^ min (Int.toNat (1 : Int)) (IntKind.bits .u64))) = (((x + y) / 2 : Nat) : Int) := by
  rw [wadd x y h, wrapU, show (2 : Int) ^ min (Int.toNat (1 : Int)) (IntKind.bits .u64) = 2 from rfl, Int.fdiv_eq_ediv_of_nonneg _ (by omega), Go.IntWalk.i64_in] <;> omega

section
variable (l c : Nat) (rest : List V)

/-- One order ahead of a sorted piece: it is put to its place there. -/
theorem sym_one (a b : Nat) (rs : List Odr) (h : Heap) (hb : b ≤ rs.length) (hn : rs.length ≤ 1000000) (h1 : a + 1 < b) (hs : Srt rs (a + 1) b) (K : V → Heap → Prop)
    (hK : ∀ rs', Mv rs rs' a b → Srt rs' a b → K (.tup []) (T l rs' rest h)) (y : Fr → Heap → Prop) :
    wpA Try.prog f73_cf f73_n01011 (f73_n01011_F l 0 rs.length c a (a + 1 : Nat) b) (T l rs rest h) (seqK y (bodyK Try.prog Try.f73 K)) := by
  simp only [f73_n01011_F]
  rw [f73_n01011_eq, wpA_seq, f73_n010110_wp, f73_n0101100_eq]
  refine wpA_loop (σ := Nat × Nat) (fun s => f73_n01011000_F l 0 rs.length c a s.1 s.2) (fun s => T l rs rest h) (fun s => s.2 - s.1)
    (fun s => a + 1 ≤ s.1 ∧ s.1 ≤ s.2 ∧ s.2 ≤ b ∧ (∀ p, a + 1 ≤ p → p < s.1 → Lt2 (go rs p) (go rs a)) ∧ (∀ p, s.2 ≤ p → p < b → Le2 (go rs a) (go rs p))) (a + 1, b) (by simp [f73_n01011000_F]) rfl
    ⟨by simp, by simp; omega, by simp, fun p _ _ => by simp at *; omega, fun p _ _ => by simp at *; omega⟩ ?_
  rintro ⟨i, j⟩ ⟨g1, g2, g3, g4, g5⟩
  simp only at g1 g2 g3 g4 g5
  simp only [f73_n01011000_F]
  rw [f73_n01011000_wp]
  by_cases c1 : i < j
  · rw [show decide ((i : Int) < (j : Int)) = true from decide_eq_true (by omega), brW_true]
    have e1 : (i + j) / 2 < rs.length := by omega
    have e2 : a < rs.length := by omega
    simp only [mid_eq i j (by omega), Int.toNat_natCast, zero_addN, T_at, tab_get _ _ e1, tab_get _ _ e2]
    simp only [tab_len, List.length_append]
    refine ⟨by omega, by omega, by omega, by omega, by omega, ?_⟩
    refine cmpo_any _ _ ⟨⟨trivial, rfl⟩, ?_⟩
    simp only [dlt]
    by_cases c2 : cmpO (go rs ((i + j) / 2)) (go rs a) < 0
    · rw [decide_eq_true c2, brW_true, wadd1 _ (by omega)]
      have c2 := (cmpO_lt _ _).1 c2
      exact ⟨((i + j) / 2 + 1, j), rfl, rfl, ⟨by omega, by omega, g3, fun p p1 p2 => (hs.le p1 (by omega) (by omega)).lt_le c2, g5⟩, by omega⟩
    · rw [decide_eq_false c2, brW_false]
      have c2 : Le2 (go rs a) (go rs ((i + j) / 2)) := (le_or_lt _ _).resolve_right (fun h => c2 ((cmpO_lt _ _).2 h))
      exact ⟨(i, (i + j) / 2), rfl, rfl, ⟨g1, by omega, by omega, g4, fun p p1 p2 => c2.trans (hs.le (by omega) p1 p2)⟩, by omega⟩
  · rw [show decide ((i : Int) < (j : Int)) = false from decide_eq_false (by omega), brW_false]
    have hij : j = i := by omega
    subst hij
    simp only [seqK_exit, blockK_exit, if_true, seqK_normal]
    rw [f73_n010111_eq, wpA_seq, f73_n0101110_wp, f73_n010111010_eq]
    have hl : ∀ k, a ≤ k → k < j → (rot rs a (a + 1) (k + 1)).length = rs.length := fun k k1 k2 => rot_len _ _ _ _ (by omega) (by omega) (by omega)
    refine wpA_loop (σ := Nat) (fun k => f73_n0101110100_F l 0 rs.length c j k) (fun k => T l (rot rs a (a + 1) (k + 1)) rest h) (fun k => j - k)
      (fun k => a ≤ k ∧ k < j) a (by simp [f73_n0101110100_F]) (by rw [rot_id _ _ _ (by omega)]) ⟨by omega, by omega⟩ ?_
    rintro k ⟨k1, k2⟩
    have hl := hl k k1 k2
    simp only [f73_n0101110100_F]
    rw [f73_n0101110100_wp]
    simp only [wsub1 j (show 1 ≤ j from by omega) (by omega)]
    by_cases c2 : k < j - 1
    · have e1 : k + 1 < (rot rs a (a + 1) (k + 1)).length := by omega
      have e2 : k < (rot rs a (a + 1) (k + 1)).length := by omega
      simp only [show decide ((k : Int) < ((j - 1 : Nat) : Int)) = true from decide_eq_true (by omega), brW_true, wadd1 k (by omega), Int.toNat_natCast, zero_addN, T_at, tab_get _ _ e1, tab_get _ _ e2, cellsAt_same, T_upd, upd_upd, ocs_len, tab_wr _ _ _ e2]
      simp only [tab_len, List.length_append, List.length_set]
      refine ⟨by omega, by omega, by omega, by omega, by omega, trivial, by omega, by omega, trivial, by omega, ?_⟩
      rw [tab_wr _ _ _ (by simpa using e1)]
      refine ⟨k + 1, rfl, ?_, ⟨by omega, by omega⟩, by omega⟩
      rw [← rot_up _ _ _ k1 (by omega)]
      rfl
    · rw [show decide ((k : Int) < ((j - 1 : Nat) : Int)) = false from decide_eq_false (by omega), brW_false]
      have : k + 1 = j := by omega
      subst this
      simp only [seqK_exit, blockK_exit, if_true, seqK_normal]
      rw [f73_n0101111_wp]
      simp only [seqK_ret]
      obtain ⟨p1, p2⟩ := ins_up g1 g3 hb hs g4 g5
      first | rw [f73_end1] | rw [f73_end2]
      exact hK _ p1 p2

/-- One order behind a sorted piece. -/
theorem sym_last (a m : Nat) (rs : List Odr) (h : Heap) (hb : m + 1 ≤ rs.length) (hn : rs.length ≤ 1000000) (h1 : a < m) (hs : Srt rs a m) (K : V → Heap → Prop)
    (hK : ∀ rs', Mv rs rs' a (m + 1) → Srt rs' a (m + 1) → K (.tup []) (T l rs' rest h)) (y : Fr → Heap → Prop) :
    wpA Try.prog f73_cf f73_n101011 (f73_n101011_F l 0 rs.length c m a m) (T l rs rest h) (seqK y (bodyK Try.prog Try.f73 K)) := by
  simp only [f73_n101011_F]
  rw [f73_n101011_eq, wpA_seq, f73_n1010110_wp, f73_n10101100_eq]
  refine wpA_loop (σ := Nat × Nat) (fun s => f73_n101011000_F l 0 rs.length c m s.1 s.2) (fun s => T l rs rest h) (fun s => s.2 - s.1)
    (fun s => a ≤ s.1 ∧ s.1 ≤ s.2 ∧ s.2 ≤ m ∧ (∀ p, a ≤ p → p < s.1 → Le2 (go rs p) (go rs m)) ∧ (∀ p, s.2 ≤ p → p < m → Lt2 (go rs m) (go rs p))) (a, m) (by simp [f73_n101011000_F]) rfl
    ⟨by simp, by simp; omega, by simp, fun p _ _ => by simp at *; omega, fun p _ _ => by simp at *; omega⟩ ?_
  rintro ⟨i, j⟩ ⟨g1, g2, g3, g4, g5⟩
  simp only at g1 g2 g3 g4 g5
  simp only [f73_n101011000_F]
  rw [f73_n101011000_wp]
  by_cases c1 : i < j
  · rw [show decide ((i : Int) < (j : Int)) = true from decide_eq_true (by omega), brW_true]
    have e1 : (i + j) / 2 < rs.length := by omega
    have e2 : m < rs.length := by omega
    simp only [mid_eq i j (by omega), Int.toNat_natCast, zero_addN, T_at, tab_get _ _ e1, tab_get _ _ e2]
    simp only [tab_len, List.length_append]
    refine ⟨by omega, by omega, by omega, by omega, by omega, ?_⟩
    refine cmpo_any _ _ ⟨⟨trivial, rfl⟩, ?_⟩
    simp only [dlt]
    by_cases c2 : cmpO (go rs m) (go rs ((i + j) / 2)) < 0
    · rw [decide_eq_true c2, Bool.not_true, brW_false]
      have c2 := (cmpO_lt _ _).1 c2
      exact ⟨(i, (i + j) / 2), rfl, rfl, ⟨g1, by omega, by omega, g4, fun p p1 p2 => c2.le_lt (hs.le (by omega) p1 p2)⟩, by omega⟩
    · rw [decide_eq_false c2, Bool.not_false, brW_true, wadd1 _ (by omega)]
      have c2 : Le2 (go rs ((i + j) / 2)) (go rs m) := (le_or_lt _ _).resolve_right (fun h => c2 ((cmpO_lt _ _).2 h))
      exact ⟨((i + j) / 2 + 1, j), rfl, rfl, ⟨by omega, by omega, g3, fun p p1 p2 => (hs.le p1 (by omega) (by omega)).trans c2, g5⟩, by omega⟩
  · rw [show decide ((i : Int) < (j : Int)) = false from decide_eq_false (by omega), brW_false]
    have hij : j = i := by omega
    subst hij
    simp only [seqK_exit, blockK_exit, if_true, seqK_normal]
    rw [f73_n1010111_eq, wpA_seq, f73_n10101110_wp, f73_n1010111010_eq]
    have hl : ∀ k, k ≤ m → (rot rs k m (m + 1)).length = rs.length := fun k k1 => rot_len _ _ _ _ (by omega) (by omega) (by omega)
    refine wpA_loop (σ := Nat) (fun k => f73_n10101110100_F l 0 rs.length c j k) (fun k => T l (rot rs k m (m + 1)) rest h) (fun k => k)
      (fun k => j ≤ k ∧ k ≤ m) m (by simp [f73_n10101110100_F]) (by rw [rot_id' _ _ _ (by omega)]) ⟨by omega, by omega⟩ ?_
    rintro k ⟨k1, k2⟩
    have hl := hl k k2
    simp only [f73_n10101110100_F]
    rw [f73_n10101110100_wp]
    by_cases c2 : j < k
    · obtain ⟨k, rfl⟩ : ∃ k', k = k' + 1 := ⟨k - 1, by omega⟩
      simp only [wsub1 (k + 1) (show 1 ≤ k + 1 from by omega) (by omega), Nat.add_sub_cancel]
      have e1 : k + 1 < (rot rs (k + 1) m (m + 1)).length := by omega
      have e2 : k < (rot rs (k + 1) m (m + 1)).length := by omega
      simp only [show decide ((j : Int) < ((k + 1 : Nat) : Int)) = true from decide_eq_true (by omega), brW_true, Int.toNat_natCast, zero_addN, T_at, tab_get _ _ e1, tab_get _ _ e2, cellsAt_same, T_upd, upd_upd, ocs_len, tab_wr _ _ _ e1]
      simp only [tab_len, List.length_append, List.length_set]
      refine ⟨by omega, by omega, by omega, by omega, by omega, trivial, by omega, by omega, trivial, by omega, ?_⟩
      rw [tab_wr _ _ _ (by simpa using e2)]
      exact ⟨k, rfl, congrArg (fun x => T l x rest h) (rot_down rs m k (by omega) (by omega)), ⟨by omega, by omega⟩, by omega⟩
    · rw [show decide ((j : Int) < (k : Int)) = false from decide_eq_false (by omega), brW_false]
      have : k = j := by omega
      subst this
      simp only [seqK_exit, blockK_exit, if_true, seqK_normal]
      rw [f73_n10101111_wp]
      simp only [seqK_ret]
      obtain ⟨p1, p2⟩ := ins_down g1 g3 (by omega) hs g4 g5
      first | rw [f73_end1] | rw [f73_end2]
      exact hK _ p1 p2

/-- The search of symMerge: where the two pieces part. -/
structure Part (rs : List Odr) (a m b mid s0 r0 s : Nat) : Prop where
  lo : s0 ≤ s
  hi : s ≤ r0
  yes : ∀ p, s0 ≤ p → p < s → Le2 (go rs p) (go rs (mid + m - 1 - p))
  no : ∀ p, s ≤ p → p < r0 → Lt2 (go rs (mid + m - 1 - p)) (go rs p)

/-- What is asked of a search's bounds. -/
structure Bnd (a m b mid s0 r0 : Nat) : Prop where
  le : s0 ≤ r0
  r : ∀ p, s0 ≤ p → p < r0 → a ≤ p ∧ p < m ∧ m ≤ mid + m - 1 - p ∧ mid + m - 1 - p < b ∧ p < mid + m

theorem sym_search (a m b mid s0 r0 : Nat) (rs : List Odr) (h : Heap) (hb : b ≤ rs.length) (hn : rs.length ≤ 1000000) (hmb : m < b) (hmid : mid < b) (B : Bnd a m b mid s0 r0) (hr : r0 ≤ b) (h1 : Srt rs a m) (h2 : Srt rs m b) (hp : 0 < mid + m)
    (Q : Ex → Fr → Heap → Prop)
    (hQ : ∀ s, Part rs a m b mid s0 r0 s → wpA Try.prog f73_cf f73_n11111111 (f73_n11111111_F l 0 rs.length c a m b mid (mid + m : Nat) s s (mid + m - 1 : Nat) false) (T l rs rest h) Q) :
    wpA Try.prog f73_cf f73_n1111111 (f73_n1111111_F l 0 rs.length c a m b mid (mid + m : Nat) s0 r0 (mid + m - 1 : Nat)) (T l rs rest h) Q := by
  simp only [f73_n1111111_F]
  rw [f73_n1111111_eq, wpA_seq, f73_n11111110_wp, f73_n111111100_eq]
  refine wpA_loop (σ := Nat × Nat) (fun s => f73_n1111111000_F l 0 rs.length c a m b mid (mid + m : Nat) s.1 s.2 (mid + m - 1 : Nat)) (fun s => T l rs rest h) (fun s => s.2 - s.1)
    (fun s => s0 ≤ s.1 ∧ s.1 ≤ s.2 ∧ s.2 ≤ r0 ∧ (∀ p, s0 ≤ p → p < s.1 → Le2 (go rs p) (go rs (mid + m - 1 - p))) ∧ (∀ p, s.2 ≤ p → p < r0 → Lt2 (go rs (mid + m - 1 - p)) (go rs p))) (s0, r0)
    (by simp [f73_n1111111000_F]) rfl ⟨by simp, by simpa using B.le, by simp, fun p _ _ => by simp at *; omega, fun p _ _ => by simp at *; omega⟩ ?_
  rintro ⟨i, j⟩ ⟨g1, g2, g3, g4, g5⟩
  simp only at g1 g2 g3 g4 g5
  simp only [f73_n1111111000_F]
  rw [f73_n1111111000_wp]
  by_cases c1 : i < j
  · rw [show decide ((i : Int) < (j : Int)) = true from decide_eq_true (by omega), brW_true]
    obtain ⟨b1, b2, b3, b4, b5⟩ := B.r ((i + j) / 2) (by omega) (by omega)
    have e1 : (i + j) / 2 < rs.length := by omega
    have e2 : mid + m - 1 - (i + j) / 2 < rs.length := by omega
    simp only [mid_eq i j (by omega), wsub (mid + m - 1) ((i + j) / 2) (by omega) (by omega), Int.toNat_natCast, zero_addN, T_at, tab_get _ _ e1, tab_get _ _ e2]
    simp only [tab_len, List.length_append]
    refine ⟨by omega, by omega, by omega, by omega, by omega, ?_⟩
    refine cmpo_any _ _ ⟨⟨trivial, rfl⟩, ?_⟩
    simp only [dlt]
    by_cases c2 : cmpO (go rs (mid + m - 1 - (i + j) / 2)) (go rs ((i + j) / 2)) < 0
    · rw [decide_eq_true c2, Bool.not_true, brW_false]
      have c2 := (cmpO_lt _ _).1 c2
      refine ⟨(i, (i + j) / 2), rfl, rfl, ⟨g1, by omega, by omega, g4, fun p p1 p2 => ?_⟩, by omega⟩
      simp only at p1
      obtain ⟨q1, q2, q3, q4, q5⟩ := B.r p (by omega) p2
      exact (h2.le q3 (show mid + m - 1 - p ≤ mid + m - 1 - (i + j) / 2 from by omega) b4).lt_le (c2.le_lt (h1.le b1 p1 q2))
    · rw [decide_eq_false c2, Bool.not_false, brW_true, wadd1 _ (by omega)]
      have c2 : Le2 (go rs ((i + j) / 2)) (go rs (mid + m - 1 - (i + j) / 2)) := (le_or_lt _ _).resolve_right (fun h => c2 ((cmpO_lt _ _).2 h))
      refine ⟨((i + j) / 2 + 1, j), rfl, rfl, ⟨by omega, by omega, g3, fun p p1 p2 => ?_, g5⟩, by omega⟩
      simp only at p2
      obtain ⟨q1, q2, q3, q4, q5⟩ := B.r p p1 (by omega)
      exact (h1.le q1 (show p ≤ (i + j) / 2 from by omega) b2).trans (c2.trans (h2.le b3 (show mid + m - 1 - (i + j) / 2 ≤ mid + m - 1 - p from by omega) q4))
  · rw [show decide ((i : Int) < (j : Int)) = false from decide_eq_false (by omega), brW_false]
    have hij : j = i := by omega
    subst hij
    simp only [seqK_exit, blockK_exit, if_true, seqK_normal]
    exact hQ j ⟨g1, g3, g4, g5⟩
end
end

section
open Go Go.Proofs Jb
set_option linter.unusedSimpArgs false

section
variable (l c : Nat) (rest : List V)

/-- What symMerge does, of pieces that are shorter than d. -/
def SymAny (d : Nat) : Prop := ∀ (a m b : Nat) (rs : List Odr) (h : Heap) (K : V → Heap → Prop), b - a < d → a < m → m < b → b ≤ rs.length → rs.length ≤ 1000000 → Srt rs a m → Srt rs m b →
  (∀ rs', Mv rs rs' a b → Srt rs' a b → K (.tup []) (T l rs' rest h)) → AnyW Try.prog 73 [.sref 6 l 0 rs.length c, .int .i64 a, .int .i64 m, .int .i64 b, .fn (Fn.func 47) [] []] (T l rs rest h) K

theorem sym_t3 {d : Nat} (ih : SymAny l c rest d) (mid e b : Nat) (n : Nat) (x : List Odr) (hx : n = x.length) (h : Heap) (hd : b - mid < d) (h1 : mid ≤ e) (h2 : e ≤ b) (hb : b ≤ x.length) (hn : x.length ≤ 1000000) (s1 : Srt x mid e) (s2 : Srt x e b)
    (K : V → Heap → Prop) (hK : ∀ y, Mv x y mid b → Srt y mid b → K (.tup []) (T l y rest h)) :
    wpA Try.prog f73_cf f73_n11111111111 (f73_n11111111111_F l 0 n c b mid e) (T l x rest h) (bodyK Try.prog Try.f73 K) ∧
    ∀ (a s : Nat) (bb : Bool), wpA Try.prog f73_cf f73_n11111111111 (f73_n11111111111s1_F l 0 n c a b mid s e bb) (T l x rest h) (bodyK Try.prog Try.f73 K) := by
  subst hx
  have done : e = mid ∨ e = b → Srt x mid b := by
    rintro (rfl | rfl)
    · exact s2
    · exact s1
  constructor
  · simp only [f73_n11111111111_F]
    rw [f73_n11111111111_wp]
    refine ⟨id, id, ⟨id, trivial⟩, ?_⟩
    by_cases c1 : mid < e
    · by_cases c2 : e < b
      · simp only [show decide ((mid : Int) < (e : Int)) = true from decide_eq_true (by omega), show decide ((e : Int) < (b : Int)) = true from decide_eq_true (by omega), cond_true, brW_true]
        refine ih mid e b x h _ hd c1 c2 hb hn s1 s2 fun y my sy => ⟨rfl, ?_⟩
        first | rw [f73_end3] | rw [f73_end1] | rw [f73_end2]
        exact hK y my sy
      · simp only [show decide ((mid : Int) < (e : Int)) = true from decide_eq_true (by omega), show decide ((e : Int) < (b : Int)) = false from decide_eq_false (by omega), cond_true, brW_false]
        first | rw [f73_end3] | rw [f73_end4]
        exact hK x (.refl _ _ _) (done (.inr (by omega)))
    · simp only [show decide ((mid : Int) < (e : Int)) = false from decide_eq_false (by omega), cond_false, brW_false]
      first | rw [f73_end3] | rw [f73_end4]
      exact hK x (.refl _ _ _) (done (.inl (by omega)))
  · intro a s bb
    simp only [f73_n11111111111s1_F]
    rw [f73_n11111111111s1_wp]
    refine ⟨id, id, ⟨id, trivial⟩, ?_⟩
    by_cases c1 : mid < e
    · by_cases c2 : e < b
      · simp only [show decide ((mid : Int) < (e : Int)) = true from decide_eq_true (by omega), show decide ((e : Int) < (b : Int)) = true from decide_eq_true (by omega), cond_true, brW_true]
        refine ih mid e b x h _ hd c1 c2 hb hn s1 s2 fun y my sy => ⟨rfl, ?_⟩
        first | rw [f73_end3] | rw [f73_end1] | rw [f73_end2]
        exact hK y my sy
      · simp only [show decide ((mid : Int) < (e : Int)) = true from decide_eq_true (by omega), show decide ((e : Int) < (b : Int)) = false from decide_eq_false (by omega), cond_true, brW_false]
        first | rw [f73_end3] | rw [f73_end4]
        exact hK x (.refl _ _ _) (done (.inr (by omega)))
    · simp only [show decide ((mid : Int) < (e : Int)) = false from decide_eq_false (by omega), cond_false, brW_false]
      first | rw [f73_end3] | rw [f73_end4]
      exact hK x (.refl _ _ _) (done (.inl (by omega)))

theorem sym_t2 {d : Nat} (ih : SymAny l c rest d) (a s mid e b : Nat) (n : Nat) (rs : List Odr) (hx : n = rs.length) (h : Heap) (hd : b - mid < d) (hd2 : mid - a < d) (h0 : a ≤ s) (h01 : s ≤ mid) (h1 : mid ≤ e) (h2 : e ≤ b) (hb : b ≤ rs.length) (hn : rs.length ≤ 1000000)
    (q1 : Srt rs a s) (q2 : Srt rs s mid) (s1 : Srt rs mid e) (s2 : Srt rs e b) (ac : ∀ i j, a ≤ i → i < mid → mid ≤ j → j < b → Le2 (go rs i) (go rs j))
    (K : V → Heap → Prop) (hK : ∀ y, Mv rs y a b → Srt y a b → K (.tup []) (T l y rest h)) :
    wpA Try.prog f73_cf f73_n1111111111 (f73_n11111111110_F l 0 n c a b mid s e) (T l rs rest h) (bodyK Try.prog Try.f73 K) ∧
    ∀ (m : Nat) (bb : Bool), wpA Try.prog f73_cf f73_n1111111111 (f73_n11111111110s1_F l 0 n c a m b mid s e bb) (T l rs rest h) (bodyK Try.prog Try.f73 K) := by
  subst hx
  have done : s = a ∨ s = mid → Srt rs a mid := by
    rintro (rfl | rfl)
    · exact q2
    · exact q1
  -- behind the left half
  have rst : ∀ x, Mv rs x a mid → Srt x a mid → _ := fun x mx sx => sym_t3 l c rest ih mid e b rs.length x mx.len.symm h hd h1 h2 (by rw [mx.len]; exact hb) (by rw [mx.len]; exact hn)
    (mx.srt (.inr (Nat.le_refl _)) s1) (mx.srt (.inr h1) s2) K (fun y my sy => by
      obtain ⟨z1, z2⟩ := halves (by omega) (by omega) mx sx my sy ac
      exact hK y z1 z2)
  constructor
  · simp only [f73_n11111111110_F]
    rw [f73_n1111111111_eq, wpA_seq, f73_n11111111110_wp]
    refine ⟨id, id, ⟨id, trivial⟩, ?_⟩
    by_cases c1 : a < s
    · by_cases c2 : s < mid
      · simp only [show decide ((a : Int) < (s : Int)) = true from decide_eq_true (by omega), show decide ((s : Int) < (mid : Int)) = true from decide_eq_true (by omega), cond_true, brW_true]
        exact ih a s mid rs h _ hd2 c1 c2 (by omega) hn q1 q2 fun y my sy => ⟨rfl, (rst y my sy).1⟩
      · simp only [show decide ((a : Int) < (s : Int)) = true from decide_eq_true (by omega), show decide ((s : Int) < (mid : Int)) = false from decide_eq_false (by omega), cond_true, brW_false]
        exact (rst rs (.refl _ _ _) (done (.inr (by omega)))).2 a s _
    · simp only [show decide ((a : Int) < (s : Int)) = false from decide_eq_false (by omega), cond_false, brW_false]
      exact (rst rs (.refl _ _ _) (done (.inl (by omega)))).2 a s _
  · intro m bb
    simp only [f73_n11111111110s1_F]
    rw [f73_n1111111111_eq, wpA_seq, f73_n11111111110s1_wp]
    refine ⟨id, id, ⟨id, trivial⟩, ?_⟩
    by_cases c1 : a < s
    · by_cases c2 : s < mid
      · simp only [show decide ((a : Int) < (s : Int)) = true from decide_eq_true (by omega), show decide ((s : Int) < (mid : Int)) = true from decide_eq_true (by omega), cond_true, brW_true]
        exact ih a s mid rs h _ hd2 c1 c2 (by omega) hn q1 q2 fun y my sy => ⟨rfl, (rst y my sy).1⟩
      · simp only [show decide ((a : Int) < (s : Int)) = true from decide_eq_true (by omega), show decide ((s : Int) < (mid : Int)) = false from decide_eq_false (by omega), cond_true, brW_false]
        exact (rst rs (.refl _ _ _) (done (.inr (by omega)))).2 a s _
    · simp only [show decide ((a : Int) < (s : Int)) = false from decide_eq_false (by omega), cond_false, brW_false]
      exact (rst rs (.refl _ _ _) (done (.inl (by omega)))).2 a s _

theorem rot_any (a m b : Nat) (rs : List Odr) (h : Heap) (ha : a < m) (hm : m < b) (hb : b ≤ rs.length) (hn : rs.length ≤ 1000000) {K : V → Heap → Prop} (k : K (.tup []) (T l (rot rs a m b) rest h)) :
    AnyW Try.prog 82 [.sref 6 l 0 rs.length c, .int .i64 a, .int .i64 m, .int .i64 b, .fn (Fn.func 47) [] []] (T l rs rest h) K :=
  AnyW.of (by kernel_rfl) (rot_call l c a m b rs rest h ha hm hb hn) (fun r h' e => by obtain ⟨rfl, rfl⟩ := e; exact k)

theorem sym_t1 {d : Nat} (ih : SymAny l c rest d) (a m s mid e b : Nat) (rs : List Odr) (h : Heap) (hd : b - mid < d) (hd2 : mid - a < d) (h0 : a ≤ s) (hsm : s ≤ m) (hme : m ≤ e) (h2 : e ≤ b) (hmid : mid + m = s + e) (hb : b ≤ rs.length) (hn : rs.length ≤ 1000000)
    (r1 : Srt rs a m) (r2 : Srt rs m b) (huv : s < m → m < e → Lt2 (go rs (e - 1)) (go rs s)) (hab : a < s → e < b → Le2 (go rs (s - 1)) (go rs e))
    (K : V → Heap → Prop) (hK : ∀ y, Mv rs y a b → Srt y a b → K (.tup []) (T l y rest h)) :
    wpA Try.prog f73_cf f73_n111111111 (f73_n1111111110_F l 0 rs.length c a m b mid s e) (T l rs rest h) (bodyK Try.prog Try.f73 K) := by
  obtain ⟨m1, q1, q2, s1, s2, ac⟩ := merge_law h0 hsm hme h2 hb hmid r1 r2 huv hab
  have rl := rot_len rs s m e hsm hme (by omega)
  have rst := sym_t2 l c rest ih a s mid e b rs.length (rot rs s m e) rl.symm h hd hd2 h0 (by omega) (by omega) h2 (by omega) (by omega) q1 q2 s1 s2 ac K (fun y my sy => hK y (m1.trans my) sy)
  simp only [f73_n1111111110_F]
  rw [f73_n111111111_eq, wpA_seq, f73_n1111111110_wp]
  refine ⟨id, id, ⟨id, trivial⟩, ?_⟩
  by_cases c1 : s < m
  · by_cases c2 : m < e
    · simp only [show decide ((s : Int) < (m : Int)) = true from decide_eq_true (by omega), show decide ((m : Int) < (e : Int)) = true from decide_eq_true (by omega), cond_true, brW_true]
      exact rot_any l c rest s m e rs h c1 c2 (by omega) hn ⟨rfl, rst.1⟩
    · simp only [show decide ((s : Int) < (m : Int)) = true from decide_eq_true (by omega), show decide ((m : Int) < (e : Int)) = false from decide_eq_false (by omega), cond_true, brW_false]
      have : rot rs s m e = rs := by rw [show e = m from by omega]; exact rot_id _ _ _ hsm
      rw [this] at rst
      exact rst.2 m _
  · simp only [show decide ((s : Int) < (m : Int)) = false from decide_eq_false (by omega), cond_false, brW_false]
    have : rot rs s m e = rs := by rw [show s = m from by omega]; exact rot_id' _ _ _ hme
    rw [this] at rst
    exact rst.2 m _

/-- Behind the search. -/
theorem sym_mid {d : Nat} (ih : SymAny l c rest d) (a m mid b s0 r0 : Nat) (rs : List Odr) (h : Heap) (hd : b - mid < d) (hd2 : mid - a < d) (ham : a < m) (hmb : m < b) (hm1 : a ≤ mid) (hm2 : mid < b) (hb : b ≤ rs.length) (hn : rs.length ≤ 1000000)
    (r1 : Srt rs a m) (r2 : Srt rs m b) (B : Bnd a m b mid s0 r0) (hr : r0 ≤ b)
    (hlo : a ≤ s0 ∧ mid + m - s0 ≤ b ∧ (s0 = a ∨ mid + m - s0 = b)) (hhi : r0 ≤ m ∧ r0 ≤ mid ∧ (r0 = m ∨ r0 = mid))
    (K : V → Heap → Prop) (hK : ∀ y, Mv rs y a b → Srt y a b → K (.tup []) (T l y rest h)) :
    wpA Try.prog f73_cf f73_n1111111 (f73_n1111111_F l 0 rs.length c a m b mid (mid + m : Nat) s0 r0 (mid + m - 1 : Nat)) (T l rs rest h) (bodyK Try.prog Try.f73 K) := by
  refine sym_search l c rest a m b mid s0 r0 rs h hb hn hmb hm2 B hr r1 r2 (by omega) _ fun s p => ?_
  obtain ⟨p1, p2, p3, p4⟩ := p
  simp only [f73_n11111111_F]
  rw [f73_n11111111_wp]
  simp only [wsub (mid + m) s (by omega) (by omega)]
  refine sym_t1 l c rest ih a m s mid (mid + m - s) b rs h hd hd2 (by omega) (by omega) (by omega) (by omega) (by omega) hb hn r1 r2 ?_ ?_ K hK
  · intro k1 k2
    have := p4 s (Nat.le_refl _) (by omega)
    rwa [show mid + m - 1 - s = mid + m - s - 1 from by omega] at this
  · intro k1 k2
    have := p3 (s - 1) (by omega) (by omega)
    rwa [show mid + m - 1 - (s - 1) = mid + m - s from by omega] at this
end

theorem sym_any (l c : Nat) (rest : List V) : ∀ d, SymAny l c rest d := by
  intro d
  induction d with
  | zero => exact fun a m b rs h K hd => absurd hd (by omega)
  | succ d ih =>
    intro a m b rs h K hd ham hmb hb hn r1 r2 hK
    refine AnyW.of (by kernel_rfl) (K0 := K) (CallW.body mix f73_cf Try.func73 (by rw [Try.ntmps73]; simp) ?_) (fun _ _ k => k)
    rw [f73_entry, f73_n_eq, wpA_seq, f73_n0_wp]
    simp only [wsub m a (by omega) (by omega)]
    by_cases c1 : m - a = 1
    · obtain rfl : m = a + 1 := by omega
      rw [show (((a + 1 - a : Nat) : Int) == 1) = true from by rw [Nat.add_sub_cancel_left]; rfl, brW_true]
      exact sym_one l c rest a b rs h hb hn hmb r2 K hK _
    · rw [show (((m - a : Nat) : Int) == 1) = false from by rw [beq_eq_false_iff_ne]; omega, brW_false, seqK_normal, f73_n1_eq, wpA_seq, f73_n10_wp]
      simp only [wsub b m (by omega) (by omega)]
      by_cases c2 : b - m = 1
      · obtain rfl : b = m + 1 := by omega
        rw [show (((m + 1 - m : Nat) : Int) == 1) = true from by rw [Nat.add_sub_cancel_left]; rfl, brW_true]
        exact sym_last l c rest a m rs h hb hn ham r1 K hK _
      · rw [show (((b - m : Nat) : Int) == 1) = false from by rw [beq_eq_false_iff_ne]; omega, brW_false, seqK_normal, f73_n11_wp]
        simp only [mid_eq a b (by omega), wadd ((a + b) / 2) m (by omega)]
        refine ⟨by omega, ?_⟩
        rw [f73_n11111_eq, wpA_seq, f73_n111110_wp]
        by_cases c3 : (a + b) / 2 < m
        · rw [show decide ((((a + b) / 2 : Nat) : Int) < (m : Int)) = true from decide_eq_true (by omega), brW_true]
          simp only [wsub ((a + b) / 2 + m) b (by omega) (by omega), seqK_normal]
          rw [f73_n111111_wp]
          simp only [wsub1 ((a + b) / 2 + m) (by omega) (by omega)]
          exact sym_mid l c rest ih a m ((a + b) / 2) b ((a + b) / 2 + m - b) ((a + b) / 2) rs h (by omega) (by omega) ham hmb (by omega) (by omega) hb hn r1 r2 ⟨by omega, fun p p1 p2 => by omega⟩ (by omega) (by omega) (by omega) K hK
        · rw [show decide ((((a + b) / 2 : Nat) : Int) < (m : Int)) = false from decide_eq_false (by omega), brW_false]
          simp only [seqK_normal]
          rw [f73_n111111_wp]
          simp only [wsub1 ((a + b) / 2 + m) (by omega) (by omega)]
          exact sym_mid l c rest ih a m ((a + b) / 2) b a m rs h (by omega) (by omega) ham hmb (by omega) (by omega) hb hn r1 r2 ⟨by omega, fun p p1 p2 => by omega⟩ (by omega) (by omega) (by omega) K hK
end

section
set_option linter.all false
set_option maxRecDepth 100000
open Go Go.Proofs Jb
def f61_cf : Cfg := ⟨[], [(1, [10]), (2, [11, 12]), (3, [7, 13, 14, 15, 16, 17, 18]), (4, [19]), (5, [20, 21, 22]), (6, [7, 8, 13, 23, 24, 25, 26, 27]), (7, [28, 29]), (8, [30, 31, 32]), (9, [33, 34]), (10, [7, 35, 36, 37, 38, 39, 40, 41, 42, 43]), (11, [44]), (12, [45, 46, 47, 48]), (13, [8, 35, 49, 50, 51]), (14, [52, 53]), (15, [7, 9, 54, 55, 56, 57, 58, 59, 60]), (16, [7, 9, 54, 61, 62])]⟩
noncomputable def f61_b : Code := bodyOf Try.f61
noncomputable def f61_n : Code :=  (codeAt [] f61_b)
noncomputable def f61_n11 : Code := hide (codeAt [1, 1] f61_b)
noncomputable def f61_n110 : Code := hide (codeAt [1, 1, 0] f61_b)
noncomputable def f61_n1100 : Code := hide (codeAt [1, 1, 0, 0] f61_b)
noncomputable def f61_n11000 : Code := hide (codeAt [1, 1, 0, 0, 0] f61_b)
noncomputable def f61_n111 : Code := hide (codeAt [1, 1, 1] f61_b)
noncomputable def f61_n11110 : Code := hide (codeAt [1, 1, 1, 1, 0] f61_b)
noncomputable def f61_n111100 : Code := hide (codeAt [1, 1, 1, 1, 0, 0] f61_b)
noncomputable def f61_n111100101 : Code := hide (codeAt [1, 1, 1, 1, 0, 0, 1, 0, 1] f61_b)
noncomputable def f61_n1111001010 : Code := hide (codeAt [1, 1, 1, 1, 0, 0, 1, 0, 1, 0] f61_b)
noncomputable def f61_n11110010100 : Code := hide (codeAt [1, 1, 1, 1, 0, 0, 1, 0, 1, 0, 0] f61_b)
noncomputable def f61_n111100101000 : Code := hide (codeAt [1, 1, 1, 1, 0, 0, 1, 0, 1, 0, 0, 0] f61_b)
noncomputable def f61_n1111001011 : Code := hide (codeAt [1, 1, 1, 1, 0, 0, 1, 0, 1, 1] f61_b)
noncomputable def f61_n11110010110 : Code := hide (codeAt [1, 1, 1, 1, 0, 0, 1, 0, 1, 1, 0] f61_b)
noncomputable def f61_n11110010111 : Code := hide (codeAt [1, 1, 1, 1, 0, 0, 1, 0, 1, 1, 1] f61_b)
theorem f61_entry (d : Nat) (d_o : Nat) (d_n : Nat) (d_c : Nat) (n : Int) (h : Heap) (K : V → Heap → Prop) : bodyW Try.prog f61_cf Try.f61 [(V.sref 6 d d_o d_n d_c), (V.int Go.IntKind.i64 n), (V.fn (Fn.func 47) [] [])] h K = wpA Try.prog f61_cf f61_n ⟨[(V.sref 6 d d_o d_n d_c), (V.int Go.IntKind.i64 n), (V.fn (Fn.func 47) [] []), V.undef, V.undef, V.undef, V.undef, V.undef, V.undef, V.undef, V.undef, V.undef, V.undef, V.undef, V.undef, V.undef, V.undef, V.undef, V.undef, V.undef, V.undef, V.undef, V.undef, V.undef, V.undef, V.undef, V.undef, V.undef, V.undef, V.undef, V.undef, V.undef, V.undef, V.undef, V.undef, V.undef, V.undef, V.undef, V.undef, V.undef, V.undef, V.undef, V.undef, V.undef, V.undef, V.undef, V.undef, V.undef, V.undef, V.undef, V.undef, V.undef, V.undef, V.undef, V.undef, V.undef, V.undef, V.undef, V.undef, V.undef, V.undef, V.undef, V.undef], []⟩ h (bodyK Try.prog Try.f61 K) := by kernel_rfl
theorem f61_n_plug : f61_n = (plug [1, 1] (codeAt [] f61_b) f61_n11) := by
  simp only [f61_n, f61_n11, hide_eq]
  try kernel_rfl
theorem f61_n_wp (d : Nat) (d_o : Nat) (d_n : Nat) (d_c : Nat) (n : Int) (h : Heap) (Q : Ex → Fr → Heap → Prop) : wpA Try.prog f61_cf f61_n ⟨[(V.sref 6 d d_o d_n d_c), (V.int Go.IntKind.i64 n), (V.fn (Fn.func 47) [] []), V.undef, V.undef, V.undef, V.undef, V.undef, V.undef, V.undef, V.undef, V.undef, V.undef, V.undef, V.undef, V.undef, V.undef, V.undef, V.undef, V.undef, V.undef, V.undef, V.undef, V.undef, V.undef, V.undef, V.undef, V.undef, V.undef, V.undef, V.undef, V.undef, V.undef, V.undef, V.undef, V.undef, V.undef, V.undef, V.undef, V.undef, V.undef, V.undef, V.undef, V.undef, V.undef, V.undef, V.undef, V.undef, V.undef, V.undef, V.undef, V.undef, V.undef, V.undef, V.undef, V.undef, V.undef, V.undef, V.undef, V.undef, V.undef, V.undef, V.undef], []⟩ h Q =
 (wpA Try.prog f61_cf f61_n11 ⟨[(V.sref 6 d d_o d_n d_c), (V.int Go.IntKind.i64 n), (V.fn (Fn.func 47) [] []), V.undef, V.undef, V.undef, (V.int Go.IntKind.i64 (20 : Int)), (V.int Go.IntKind.i64 (0 : Int)), (V.int Go.IntKind.i64 (20 : Int)), V.undef, V.undef, V.undef, V.undef, V.undef, V.undef, V.undef, V.undef, V.undef, V.undef, V.undef, V.undef, V.undef, V.undef, V.undef, V.undef, V.undef, V.undef, V.undef, V.undef, V.undef, V.undef, V.undef, V.undef, V.undef, V.undef, V.undef, V.undef, V.undef, V.undef, V.undef, V.undef, V.undef, V.undef, V.undef, V.undef, V.undef, V.undef, V.undef, V.undef, V.undef, V.undef, V.undef, V.undef, V.undef, V.undef, V.undef, V.undef, V.undef, V.undef, V.undef, V.undef, V.undef, V.undef], []⟩ h Q) := wpA_at f61_n_plug (by kernel_rfl)
theorem f61_n11_eq : f61_n11 = Code.seq f61_n110 f61_n111 := by
  simp only [f61_n11, f61_n110, f61_n111, hide_eq]
  kernel_rfl
theorem f61_n110_plug : f61_n110 = (plug [0] (codeAt [1, 1, 0] f61_b) f61_n1100) := by
  simp only [f61_n110, f61_n1100, hide_eq]
  try kernel_rfl
theorem f61_n110_wp (l0 : Nat) (o1 : Nat) (n2 : Nat) (c3 : Nat) (x4 : Int) (x5 : Int) (x6 : Int) (x7 : Int) (h : Heap) (Q : Ex → Fr → Heap → Prop) : wpA Try.prog f61_cf f61_n110 ⟨[(V.sref 6 l0 o1 n2 c3), (V.int Go.IntKind.i64 x4), (V.fn (Fn.func 47) [] []), V.undef, V.undef, V.undef, (V.int Go.IntKind.i64 x5), (V.int Go.IntKind.i64 x6), (V.int Go.IntKind.i64 x7), V.undef, V.undef, V.undef, V.undef, V.undef, V.undef, V.undef, V.undef, V.undef, V.undef, V.undef, V.undef, V.undef, V.undef, V.undef, V.undef, V.undef, V.undef, V.undef, V.undef, V.undef, V.undef, V.undef, V.undef, V.undef, V.undef, V.undef, V.undef, V.undef, V.undef, V.undef, V.undef, V.undef, V.undef, V.undef, V.undef, V.undef, V.undef, V.undef, V.undef, V.undef, V.undef, V.undef, V.undef, V.undef, V.undef, V.undef, V.undef, V.undef, V.undef, V.undef, V.undef, V.undef, V.undef], []⟩ h Q =
 (wpA Try.prog f61_cf f61_n1100 ⟨[(V.sref 6 l0 o1 n2 c3), (V.int Go.IntKind.i64 x4), (V.fn (Fn.func 47) [] []), V.undef, V.undef, V.undef, (V.int Go.IntKind.i64 x5), (V.int Go.IntKind.i64 x6), (V.int Go.IntKind.i64 x7), V.undef, V.undef, V.undef, V.undef, V.undef, V.undef, V.undef, V.undef, V.undef, V.undef, V.undef, V.undef, V.undef, V.undef, V.undef, V.undef, V.undef, V.undef, V.undef, V.undef, V.undef, V.undef, V.undef, V.undef, V.undef, V.undef, V.undef, V.undef, V.undef, V.undef, V.undef, V.undef, V.undef, V.undef, V.undef, V.undef, V.undef, V.undef, V.undef, V.undef, V.undef, V.undef, V.undef, V.undef, V.undef, V.undef, V.undef, V.undef, V.undef, V.undef, V.undef, V.undef, V.undef, V.undef], []⟩ h (blockK 0 Q)) := wpA_at f61_n110_plug (by kernel_rfl)
theorem f61_n1100_eq : f61_n1100 = Code.loop f61_n11000 := by
  simp only [f61_n1100, f61_n11000, hide_eq]
  kernel_rfl
def f61_n11000_F (l0 : Nat) (o1 : Nat) (n2 : Nat) (c3 : Nat) (x4 : Int) (x5 : Int) (x6 : Int) (x7 : Int) : Fr := ⟨[(V.sref 6 l0 o1 n2 c3), (V.int Go.IntKind.i64 x4), (V.fn (Fn.func 47) [] []), V.undef, V.undef, V.undef, (V.int Go.IntKind.i64 x5), (V.int Go.IntKind.i64 x6), (V.int Go.IntKind.i64 x7), V.undef, V.undef, V.undef, V.undef, V.undef, V.undef, V.undef, V.undef, V.undef, V.undef, V.undef, V.undef, V.undef, V.undef, V.undef, V.undef, V.undef, V.undef, V.undef, V.undef, V.undef, V.undef, V.undef, V.undef, V.undef, V.undef, V.undef, V.undef, V.undef, V.undef, V.undef, V.undef, V.undef, V.undef, V.undef, V.undef, V.undef, V.undef, V.undef, V.undef, V.undef, V.undef, V.undef, V.undef, V.undef, V.undef, V.undef, V.undef, V.undef, V.undef, V.undef, V.undef, V.undef, V.undef], []⟩
theorem f61_n11000_plug : f61_n11000 = (codeAt [1, 1, 0, 0, 0] f61_b) := by
  simp only [f61_n11000, hide_eq]
  try kernel_rfl
theorem f61_n11000_wp (l0 : Nat) (o1 : Nat) (n2 : Nat) (c3 : Nat) (x4 : Int) (x5 : Int) (x6 : Int) (x7 : Int) (h : Heap) (Q : Ex → Fr → Heap → Prop) : wpA Try.prog f61_cf f61_n11000 ⟨[(V.sref 6 l0 o1 n2 c3), (V.int Go.IntKind.i64 x4), (V.fn (Fn.func 47) [] []), V.undef, V.undef, V.undef, (V.int Go.IntKind.i64 x5), (V.int Go.IntKind.i64 x6), (V.int Go.IntKind.i64 x7), V.undef, V.undef, V.undef, V.undef, V.undef, V.undef, V.undef, V.undef, V.undef, V.undef, V.undef, V.undef, V.undef, V.undef, V.undef, V.undef, V.undef, V.undef, V.undef, V.undef, V.undef, V.undef, V.undef, V.undef, V.undef, V.undef, V.undef, V.undef, V.undef, V.undef, V.undef, V.undef, V.undef, V.undef, V.undef, V.undef, V.undef, V.undef, V.undef, V.undef, V.undef, V.undef, V.undef, V.undef, V.undef, V.undef, V.undef, V.undef, V.undef, V.undef, V.undef, V.undef, V.undef, V.undef], []⟩ h Q =
 (brW (decide (x7 ≤ x4))
 (AnyW Try.prog 72 [(V.sref 6 l0 o1 n2 c3), (V.int Go.IntKind.i64 x6), (V.int Go.IntKind.i64 x7), (V.fn (Fn.func 47) [] [])] h (fun (rz1 : V) (hz2 : Heap) =>
 (V.isTup 0 rz1 = true ∧ (let iz3 : Int := (Go.IntKind.wrap Go.IntKind.i64 (x7 + x5));
 (Q Ex.normal ⟨[(V.sref 6 l0 o1 n2 c3), (V.int Go.IntKind.i64 x4), (V.fn (Fn.func 47) [] []), V.undef, V.undef, V.undef, (V.int Go.IntKind.i64 x5), (V.int Go.IntKind.i64 x7), (V.int Go.IntKind.i64 iz3), V.undef, V.undef, V.undef, V.undef, V.undef, V.undef, V.undef, V.undef, V.undef, V.undef, V.undef, V.undef, V.undef, V.undef, V.undef, V.undef, V.undef, V.undef, V.undef, V.undef, V.undef, V.undef, V.undef, V.undef, V.undef, V.undef, V.undef, V.undef, V.undef, V.undef, V.undef, V.undef, V.undef, V.undef, V.undef, V.undef, V.undef, V.undef, V.undef, V.undef, V.undef, V.undef, V.undef, V.undef, V.undef, V.undef, V.undef, V.undef, V.undef, V.undef, V.undef, V.undef, V.undef, V.undef], []⟩ hz2)))))
 (Q (Ex.exit 0) ⟨[(V.sref 6 l0 o1 n2 c3), (V.int Go.IntKind.i64 x4), (V.fn (Fn.func 47) [] []), V.undef, V.undef, V.undef, (V.int Go.IntKind.i64 x5), (V.int Go.IntKind.i64 x6), (V.int Go.IntKind.i64 x7), V.undef, V.undef, V.undef, V.undef, (V.bool (decide (x7 ≤ x4))), V.undef, V.undef, V.undef, V.undef, V.undef, V.undef, V.undef, V.undef, V.undef, V.undef, V.undef, V.undef, V.undef, V.undef, V.undef, V.undef, V.undef, V.undef, V.undef, V.undef, V.undef, V.undef, V.undef, V.undef, V.undef, V.undef, V.undef, V.undef, V.undef, V.undef, V.undef, V.undef, V.undef, V.undef, V.undef, V.undef, V.undef, V.undef, V.undef, V.undef, V.undef, V.undef, V.undef, V.undef, V.undef, V.undef, V.undef, V.undef, V.undef], []⟩ h)) := wpA_at f61_n11000_plug (by kernel_rfl)
theorem f61_n111_plug : f61_n111 = (plug [1, 0] (codeAt [1, 1, 1] f61_b) f61_n11110) := by
  simp only [f61_n111, f61_n11110, hide_eq]
  try kernel_rfl
theorem f61_n111_wp (l0 : Nat) (o1 : Nat) (n2 : Nat) (c3 : Nat) (x4 : Int) (x5 : Int) (x6 : Int) (x7 : Int) (b8 : Bool) (h : Heap) (Q : Ex → Fr → Heap → Prop) : wpA Try.prog f61_cf f61_n111 ⟨[(V.sref 6 l0 o1 n2 c3), (V.int Go.IntKind.i64 x4), (V.fn (Fn.func 47) [] []), V.undef, V.undef, V.undef, (V.int Go.IntKind.i64 x5), (V.int Go.IntKind.i64 x6), (V.int Go.IntKind.i64 x7), V.undef, V.undef, V.undef, V.undef, (V.bool b8), V.undef, V.undef, V.undef, V.undef, V.undef, V.undef, V.undef, V.undef, V.undef, V.undef, V.undef, V.undef, V.undef, V.undef, V.undef, V.undef, V.undef, V.undef, V.undef, V.undef, V.undef, V.undef, V.undef, V.undef, V.undef, V.undef, V.undef, V.undef, V.undef, V.undef, V.undef, V.undef, V.undef, V.undef, V.undef, V.undef, V.undef, V.undef, V.undef, V.undef, V.undef, V.undef, V.undef, V.undef, V.undef, V.undef, V.undef, V.undef, V.undef], []⟩ h Q =
 (AnyW Try.prog 72 [(V.sref 6 l0 o1 n2 c3), (V.int Go.IntKind.i64 x6), (V.int Go.IntKind.i64 x4), (V.fn (Fn.func 47) [] [])] h (fun (rz4 : V) (hz5 : Heap) =>
 (V.isTup 0 rz4 = true ∧ (wpA Try.prog f61_cf f61_n11110 ⟨[(V.sref 6 l0 o1 n2 c3), (V.int Go.IntKind.i64 x4), (V.fn (Fn.func 47) [] []), V.undef, V.undef, V.undef, (V.int Go.IntKind.i64 x5), V.undef, V.undef, V.undef, V.undef, V.undef, V.undef, V.undef, V.undef, V.undef, V.undef, V.undef, V.undef, V.undef, V.undef, V.undef, V.undef, V.undef, V.undef, V.undef, V.undef, V.undef, V.undef, V.undef, V.undef, V.undef, V.undef, V.undef, V.undef, V.undef, V.undef, V.undef, V.undef, V.undef, V.undef, V.undef, V.undef, V.undef, V.undef, V.undef, V.undef, V.undef, V.undef, V.undef, V.undef, V.undef, V.undef, V.undef, V.undef, V.undef, V.undef, V.undef, V.undef, V.undef, V.undef, V.undef, V.undef], []⟩ hz5 (blockK 2 Q))))) := wpA_at f61_n111_plug (by kernel_rfl)
theorem f61_n11110_eq : f61_n11110 = Code.loop f61_n111100 := by
  simp only [f61_n11110, f61_n111100, hide_eq]
  kernel_rfl
def f61_n111100_F (l0 : Nat) (o1 : Nat) (n2 : Nat) (c3 : Nat) (x4 : Int) (x5 : Int) : Fr := ⟨[(V.sref 6 l0 o1 n2 c3), (V.int Go.IntKind.i64 x4), (V.fn (Fn.func 47) [] []), V.undef, V.undef, V.undef, (V.int Go.IntKind.i64 x5), V.undef, V.undef, V.undef, V.undef, V.undef, V.undef, V.undef, V.undef, V.undef, V.undef, V.undef, V.undef, V.undef, V.undef, V.undef, V.undef, V.undef, V.undef, V.undef, V.undef, V.undef, V.undef, V.undef, V.undef, V.undef, V.undef, V.undef, V.undef, V.undef, V.undef, V.undef, V.undef, V.undef, V.undef, V.undef, V.undef, V.undef, V.undef, V.undef, V.undef, V.undef, V.undef, V.undef, V.undef, V.undef, V.undef, V.undef, V.undef, V.undef, V.undef, V.undef, V.undef, V.undef, V.undef, V.undef, V.undef], []⟩
theorem f61_n111100_plug : f61_n111100 = (plug [1, 0, 1] (codeAt [1, 1, 1, 1, 0, 0] f61_b) f61_n111100101) := by
  simp only [f61_n111100, f61_n111100101, hide_eq]
  try kernel_rfl
theorem f61_n111100_wp (l0 : Nat) (o1 : Nat) (n2 : Nat) (c3 : Nat) (x4 : Int) (x5 : Int) (h : Heap) (Q : Ex → Fr → Heap → Prop) : wpA Try.prog f61_cf f61_n111100 ⟨[(V.sref 6 l0 o1 n2 c3), (V.int Go.IntKind.i64 x4), (V.fn (Fn.func 47) [] []), V.undef, V.undef, V.undef, (V.int Go.IntKind.i64 x5), V.undef, V.undef, V.undef, V.undef, V.undef, V.undef, V.undef, V.undef, V.undef, V.undef, V.undef, V.undef, V.undef, V.undef, V.undef, V.undef, V.undef, V.undef, V.undef, V.undef, V.undef, V.undef, V.undef, V.undef, V.undef, V.undef, V.undef, V.undef, V.undef, V.undef, V.undef, V.undef, V.undef, V.undef, V.undef, V.undef, V.undef, V.undef, V.undef, V.undef, V.undef, V.undef, V.undef, V.undef, V.undef, V.undef, V.undef, V.undef, V.undef, V.undef, V.undef, V.undef, V.undef, V.undef, V.undef, V.undef], []⟩ h Q =
 (brW (decide (x5 < x4))
 (let iz6 : Int := (Go.IntKind.wrap Go.IntKind.i64 ((2 : Int) * x5));
 (wpA Try.prog f61_cf f61_n111100101 ⟨[(V.sref 6 l0 o1 n2 c3), (V.int Go.IntKind.i64 x4), (V.fn (Fn.func 47) [] []), V.undef, V.undef, V.undef, (V.int Go.IntKind.i64 x5), (V.int Go.IntKind.i64 (0 : Int)), (V.int Go.IntKind.i64 iz6), V.undef, V.undef, V.undef, V.undef, V.undef, V.undef, V.undef, V.undef, V.undef, V.undef, V.undef, V.undef, V.undef, V.undef, V.undef, V.undef, V.undef, V.undef, V.undef, V.undef, V.undef, V.undef, V.undef, V.undef, V.undef, V.undef, V.undef, V.undef, V.undef, V.undef, V.undef, V.undef, V.undef, V.undef, V.undef, V.undef, V.undef, V.undef, V.undef, V.undef, V.undef, V.undef, V.undef, V.undef, V.undef, V.undef, V.undef, V.undef, V.undef, V.undef, V.undef, V.undef, V.undef, V.undef], []⟩ h (blockK 3 Q)))
 (Q (Ex.exit 2) ⟨[(V.sref 6 l0 o1 n2 c3), (V.int Go.IntKind.i64 x4), (V.fn (Fn.func 47) [] []), V.undef, V.undef, V.undef, (V.int Go.IntKind.i64 x5), V.undef, V.undef, V.undef, V.undef, V.undef, V.undef, V.undef, V.undef, V.undef, V.undef, V.undef, V.undef, V.undef, V.undef, V.undef, V.undef, V.undef, V.undef, V.undef, V.undef, V.undef, V.undef, V.undef, (V.bool (decide (x5 < x4))), V.undef, V.undef, V.undef, V.undef, V.undef, V.undef, V.undef, V.undef, V.undef, V.undef, V.undef, V.undef, V.undef, V.undef, V.undef, V.undef, V.undef, V.undef, V.undef, V.undef, V.undef, V.undef, V.undef, V.undef, V.undef, V.undef, V.undef, V.undef, V.undef, V.undef, V.undef, V.undef], []⟩ h)) := wpA_at f61_n111100_plug (by kernel_rfl)
theorem f61_n111100101_eq : f61_n111100101 = Code.seq f61_n1111001010 f61_n1111001011 := by
  simp only [f61_n111100101, f61_n1111001010, f61_n1111001011, hide_eq]
  kernel_rfl
theorem f61_n1111001010_plug : f61_n1111001010 = (plug [0] (codeAt [1, 1, 1, 1, 0, 0, 1, 0, 1, 0] f61_b) f61_n11110010100) := by
  simp only [f61_n1111001010, f61_n11110010100, hide_eq]
  try kernel_rfl
theorem f61_n1111001010_wp (l0 : Nat) (o1 : Nat) (n2 : Nat) (c3 : Nat) (x4 : Int) (x5 : Int) (x6 : Int) (x7 : Int) (h : Heap) (Q : Ex → Fr → Heap → Prop) : wpA Try.prog f61_cf f61_n1111001010 ⟨[(V.sref 6 l0 o1 n2 c3), (V.int Go.IntKind.i64 x4), (V.fn (Fn.func 47) [] []), V.undef, V.undef, V.undef, (V.int Go.IntKind.i64 x5), (V.int Go.IntKind.i64 x6), (V.int Go.IntKind.i64 x7), V.undef, V.undef, V.undef, V.undef, V.undef, V.undef, V.undef, V.undef, V.undef, V.undef, V.undef, V.undef, V.undef, V.undef, V.undef, V.undef, V.undef, V.undef, V.undef, V.undef, V.undef, V.undef, V.undef, V.undef, V.undef, V.undef, V.undef, V.undef, V.undef, V.undef, V.undef, V.undef, V.undef, V.undef, V.undef, V.undef, V.undef, V.undef, V.undef, V.undef, V.undef, V.undef, V.undef, V.undef, V.undef, V.undef, V.undef, V.undef, V.undef, V.undef, V.undef, V.undef, V.undef, V.undef], []⟩ h Q =
 (wpA Try.prog f61_cf f61_n11110010100 ⟨[(V.sref 6 l0 o1 n2 c3), (V.int Go.IntKind.i64 x4), (V.fn (Fn.func 47) [] []), V.undef, V.undef, V.undef, (V.int Go.IntKind.i64 x5), (V.int Go.IntKind.i64 x6), (V.int Go.IntKind.i64 x7), V.undef, V.undef, V.undef, V.undef, V.undef, V.undef, V.undef, V.undef, V.undef, V.undef, V.undef, V.undef, V.undef, V.undef, V.undef, V.undef, V.undef, V.undef, V.undef, V.undef, V.undef, V.undef, V.undef, V.undef, V.undef, V.undef, V.undef, V.undef, V.undef, V.undef, V.undef, V.undef, V.undef, V.undef, V.undef, V.undef, V.undef, V.undef, V.undef, V.undef, V.undef, V.undef, V.undef, V.undef, V.undef, V.undef, V.undef, V.undef, V.undef, V.undef, V.undef, V.undef, V.undef, V.undef], []⟩ h (blockK 4 Q)) := wpA_at f61_n1111001010_plug (by kernel_rfl)
theorem f61_n11110010100_eq : f61_n11110010100 = Code.loop f61_n111100101000 := by
  simp only [f61_n11110010100, f61_n111100101000, hide_eq]
  kernel_rfl
def f61_n111100101000_F (l0 : Nat) (o1 : Nat) (n2 : Nat) (c3 : Nat) (x4 : Int) (x5 : Int) (x6 : Int) (x7 : Int) : Fr := ⟨[(V.sref 6 l0 o1 n2 c3), (V.int Go.IntKind.i64 x4), (V.fn (Fn.func 47) [] []), V.undef, V.undef, V.undef, (V.int Go.IntKind.i64 x5), (V.int Go.IntKind.i64 x6), (V.int Go.IntKind.i64 x7), V.undef, V.undef, V.undef, V.undef, V.undef, V.undef, V.undef, V.undef, V.undef, V.undef, V.undef, V.undef, V.undef, V.undef, V.undef, V.undef, V.undef, V.undef, V.undef, V.undef, V.undef, V.undef, V.undef, V.undef, V.undef, V.undef, V.undef, V.undef, V.undef, V.undef, V.undef, V.undef, V.undef, V.undef, V.undef, V.undef, V.undef, V.undef, V.undef, V.undef, V.undef, V.undef, V.undef, V.undef, V.undef, V.undef, V.undef, V.undef, V.undef, V.undef, V.undef, V.undef, V.undef, V.undef], []⟩
theorem f61_n111100101000_plug : f61_n111100101000 = (codeAt [1, 1, 1, 1, 0, 0, 1, 0, 1, 0, 0, 0] f61_b) := by
  simp only [f61_n111100101000, hide_eq]
  try kernel_rfl
theorem f61_n111100101000_wp (l0 : Nat) (o1 : Nat) (n2 : Nat) (c3 : Nat) (x4 : Int) (x5 : Int) (x6 : Int) (x7 : Int) (h : Heap) (Q : Ex → Fr → Heap → Prop) : wpA Try.prog f61_cf f61_n111100101000 ⟨[(V.sref 6 l0 o1 n2 c3), (V.int Go.IntKind.i64 x4), (V.fn (Fn.func 47) [] []), V.undef, V.undef, V.undef, (V.int Go.IntKind.i64 x5), (V.int Go.IntKind.i64 x6), (V.int Go.IntKind.i64 x7), V.undef, V.undef, V.undef, V.undef, V.undef, V.undef, V.undef, V.undef, V.undef, V.undef, V.undef, V.undef, V.undef, V.undef, V.undef, V.undef, V.undef, V.undef, V.undef, V.undef, V.undef, V.undef, V.undef, V.undef, V.undef, V.undef, V.undef, V.undef, V.undef, V.undef, V.undef, V.undef, V.undef, V.undef, V.undef, V.undef, V.undef, V.undef, V.undef, V.undef, V.undef, V.undef, V.undef, V.undef, V.undef, V.undef, V.undef, V.undef, V.undef, V.undef, V.undef, V.undef, V.undef, V.undef], []⟩ h Q =
 (brW (decide (x7 ≤ x4))
 (let iz7 : Int := (Go.IntKind.wrap Go.IntKind.i64 (x6 + x5));
 (AnyW Try.prog 73 [(V.sref 6 l0 o1 n2 c3), (V.int Go.IntKind.i64 x6), (V.int Go.IntKind.i64 iz7), (V.int Go.IntKind.i64 x7), (V.fn (Fn.func 47) [] [])] h (fun (rz8 : V) (hz9 : Heap) =>
 (V.isTup 0 rz8 = true ∧ (let iz10 : Int := (Go.IntKind.wrap Go.IntKind.i64 ((2 : Int) * x5));
 (let iz11 : Int := (Go.IntKind.wrap Go.IntKind.i64 (x7 + iz10));
 (Q Ex.normal ⟨[(V.sref 6 l0 o1 n2 c3), (V.int Go.IntKind.i64 x4), (V.fn (Fn.func 47) [] []), V.undef, V.undef, V.undef, (V.int Go.IntKind.i64 x5), (V.int Go.IntKind.i64 x7), (V.int Go.IntKind.i64 iz11), V.undef, V.undef, V.undef, V.undef, V.undef, V.undef, V.undef, V.undef, V.undef, V.undef, V.undef, V.undef, V.undef, V.undef, V.undef, V.undef, V.undef, V.undef, V.undef, V.undef, V.undef, V.undef, V.undef, V.undef, V.undef, V.undef, V.undef, V.undef, V.undef, V.undef, V.undef, V.undef, V.undef, V.undef, V.undef, V.undef, V.undef, V.undef, V.undef, V.undef, V.undef, V.undef, V.undef, V.undef, V.undef, V.undef, V.undef, V.undef, V.undef, V.undef, V.undef, V.undef, V.undef, V.undef], []⟩ hz9)))))))
 (Q (Ex.exit 4) ⟨[(V.sref 6 l0 o1 n2 c3), (V.int Go.IntKind.i64 x4), (V.fn (Fn.func 47) [] []), V.undef, V.undef, V.undef, (V.int Go.IntKind.i64 x5), (V.int Go.IntKind.i64 x6), (V.int Go.IntKind.i64 x7), V.undef, V.undef, V.undef, V.undef, V.undef, V.undef, V.undef, V.undef, V.undef, V.undef, V.undef, V.undef, V.undef, V.undef, V.undef, V.undef, V.undef, V.undef, V.undef, V.undef, V.undef, V.undef, V.undef, V.undef, V.undef, V.undef, (V.bool (decide (x7 ≤ x4))), V.undef, V.undef, V.undef, V.undef, V.undef, V.undef, V.undef, V.undef, V.undef, V.undef, V.undef, V.undef, V.undef, V.undef, V.undef, V.undef, V.undef, V.undef, V.undef, V.undef, V.undef, V.undef, V.undef, V.undef, V.undef, V.undef, V.undef], []⟩ h)) := wpA_at f61_n111100101000_plug (by kernel_rfl)
theorem f61_n1111001011_eq : f61_n1111001011 = Code.seq f61_n11110010110 f61_n11110010111 := by
  simp only [f61_n1111001011, f61_n11110010110, f61_n11110010111, hide_eq]
  kernel_rfl
theorem f61_n11110010110_plug : f61_n11110010110 = (codeAt [1, 1, 1, 1, 0, 0, 1, 0, 1, 1, 0] f61_b) := by
  simp only [f61_n11110010110, hide_eq]
  try kernel_rfl
theorem f61_n11110010110_wp (l0 : Nat) (o1 : Nat) (n2 : Nat) (c3 : Nat) (x4 : Int) (x5 : Int) (x6 : Int) (x7 : Int) (b8 : Bool) (h : Heap) (Q : Ex → Fr → Heap → Prop) : wpA Try.prog f61_cf f61_n11110010110 ⟨[(V.sref 6 l0 o1 n2 c3), (V.int Go.IntKind.i64 x4), (V.fn (Fn.func 47) [] []), V.undef, V.undef, V.undef, (V.int Go.IntKind.i64 x5), (V.int Go.IntKind.i64 x6), (V.int Go.IntKind.i64 x7), V.undef, V.undef, V.undef, V.undef, V.undef, V.undef, V.undef, V.undef, V.undef, V.undef, V.undef, V.undef, V.undef, V.undef, V.undef, V.undef, V.undef, V.undef, V.undef, V.undef, V.undef, V.undef, V.undef, V.undef, V.undef, V.undef, (V.bool b8), V.undef, V.undef, V.undef, V.undef, V.undef, V.undef, V.undef, V.undef, V.undef, V.undef, V.undef, V.undef, V.undef, V.undef, V.undef, V.undef, V.undef, V.undef, V.undef, V.undef, V.undef, V.undef, V.undef, V.undef, V.undef, V.undef, V.undef], []⟩ h Q =
 (let iz12 : Int := (Go.IntKind.wrap Go.IntKind.i64 (x6 + x5));
 (brW (decide (iz12 < x4))
 (AnyW Try.prog 73 [(V.sref 6 l0 o1 n2 c3), (V.int Go.IntKind.i64 x6), (V.int Go.IntKind.i64 iz12), (V.int Go.IntKind.i64 x4), (V.fn (Fn.func 47) [] [])] h (fun (rz13 : V) (hz14 : Heap) =>
 (V.isTup 0 rz13 = true ∧ (Q Ex.normal ⟨[(V.sref 6 l0 o1 n2 c3), (V.int Go.IntKind.i64 x4), (V.fn (Fn.func 47) [] []), V.undef, V.undef, V.undef, (V.int Go.IntKind.i64 x5), V.undef, V.undef, V.undef, V.undef, V.undef, V.undef, V.undef, V.undef, V.undef, V.undef, V.undef, V.undef, V.undef, V.undef, V.undef, V.undef, V.undef, V.undef, V.undef, V.undef, V.undef, V.undef, V.undef, V.undef, V.undef, V.undef, V.undef, V.undef, V.undef, V.undef, V.undef, V.undef, V.undef, V.undef, V.undef, V.undef, V.undef, V.undef, V.undef, V.undef, V.undef, V.undef, V.undef, V.undef, V.undef, V.undef, V.undef, V.undef, V.undef, V.undef, V.undef, V.undef, V.undef, V.undef, V.undef, V.undef], []⟩ hz14))))
 (Q Ex.normal ⟨[(V.sref 6 l0 o1 n2 c3), (V.int Go.IntKind.i64 x4), (V.fn (Fn.func 47) [] []), V.undef, V.undef, V.undef, (V.int Go.IntKind.i64 x5), (V.int Go.IntKind.i64 x6), V.undef, (V.int Go.IntKind.i64 iz12), V.undef, V.undef, V.undef, V.undef, V.undef, V.undef, V.undef, V.undef, V.undef, V.undef, V.undef, V.undef, V.undef, V.undef, V.undef, V.undef, V.undef, V.undef, V.undef, V.undef, V.undef, V.undef, V.undef, V.undef, V.undef, V.undef, V.undef, V.undef, V.undef, V.undef, V.undef, V.undef, V.undef, V.undef, V.undef, V.undef, V.undef, V.undef, V.undef, V.undef, V.undef, V.undef, V.undef, V.undef, (V.bool (decide (iz12 < x4))), V.undef, V.undef, V.undef, V.undef, V.undef, V.undef, V.undef, V.undef], []⟩ h))) := wpA_at f61_n11110010110_plug (by kernel_rfl)
theorem f61_n11110010111_plug : f61_n11110010111 = (codeAt [1, 1, 1, 1, 0, 0, 1, 0, 1, 1, 1] f61_b) := by
  simp only [f61_n11110010111, hide_eq]
  try kernel_rfl
theorem f61_n11110010111_wp (l0 : Nat) (o1 : Nat) (n2 : Nat) (c3 : Nat) (x4 : Int) (x5 : Int) (h : Heap) (Q : Ex → Fr → Heap → Prop) : wpA Try.prog f61_cf f61_n11110010111 ⟨[(V.sref 6 l0 o1 n2 c3), (V.int Go.IntKind.i64 x4), (V.fn (Fn.func 47) [] []), V.undef, V.undef, V.undef, (V.int Go.IntKind.i64 x5), V.undef, V.undef, V.undef, V.undef, V.undef, V.undef, V.undef, V.undef, V.undef, V.undef, V.undef, V.undef, V.undef, V.undef, V.undef, V.undef, V.undef, V.undef, V.undef, V.undef, V.undef, V.undef, V.undef, V.undef, V.undef, V.undef, V.undef, V.undef, V.undef, V.undef, V.undef, V.undef, V.undef, V.undef, V.undef, V.undef, V.undef, V.undef, V.undef, V.undef, V.undef, V.undef, V.undef, V.undef, V.undef, V.undef, V.undef, V.undef, V.undef, V.undef, V.undef, V.undef, V.undef, V.undef, V.undef, V.undef], []⟩ h Q =
 (let iz15 : Int := (Go.IntKind.wrap Go.IntKind.i64 (x5 * (2 : Int)));
 (Q Ex.normal ⟨[(V.sref 6 l0 o1 n2 c3), (V.int Go.IntKind.i64 x4), (V.fn (Fn.func 47) [] []), V.undef, V.undef, V.undef, (V.int Go.IntKind.i64 iz15), V.undef, V.undef, V.undef, V.undef, V.undef, V.undef, V.undef, V.undef, V.undef, V.undef, V.undef, V.undef, V.undef, V.undef, V.undef, V.undef, V.undef, V.undef, V.undef, V.undef, V.undef, V.undef, V.undef, V.undef, V.undef, V.undef, V.undef, V.undef, V.undef, V.undef, V.undef, V.undef, V.undef, V.undef, V.undef, V.undef, V.undef, V.undef, V.undef, V.undef, V.undef, V.undef, V.undef, V.undef, V.undef, V.undef, V.undef, V.undef, V.undef, V.undef, V.undef, V.undef, V.undef, V.undef, V.undef, V.undef], []⟩ h)) := wpA_at f61_n11110010111_plug (by kernel_rfl)
theorem f61_n11110010111s1_wp (l0 : Nat) (o1 : Nat) (n2 : Nat) (c3 : Nat) (x4 : Int) (x5 : Int) (x6 : Int) (x7 : Int) (b8 : Bool) (h : Heap) (Q : Ex → Fr → Heap → Prop) : wpA Try.prog f61_cf f61_n11110010111 ⟨[(V.sref 6 l0 o1 n2 c3), (V.int Go.IntKind.i64 x4), (V.fn (Fn.func 47) [] []), V.undef, V.undef, V.undef, (V.int Go.IntKind.i64 x5), (V.int Go.IntKind.i64 x6), V.undef, (V.int Go.IntKind.i64 x7), V.undef, V.undef, V.undef, V.undef, V.undef, V.undef, V.undef, V.undef, V.undef, V.undef, V.undef, V.undef, V.undef, V.undef, V.undef, V.undef, V.undef, V.undef, V.undef, V.undef, V.undef, V.undef, V.undef, V.undef, V.undef, V.undef, V.undef, V.undef, V.undef, V.undef, V.undef, V.undef, V.undef, V.undef, V.undef, V.undef, V.undef, V.undef, V.undef, V.undef, V.undef, V.undef, V.undef, V.undef, (V.bool b8), V.undef, V.undef, V.undef, V.undef, V.undef, V.undef, V.undef, V.undef], []⟩ h Q =
 (let iz16 : Int := (Go.IntKind.wrap Go.IntKind.i64 (x5 * (2 : Int)));
 (Q Ex.normal ⟨[(V.sref 6 l0 o1 n2 c3), (V.int Go.IntKind.i64 x4), (V.fn (Fn.func 47) [] []), V.undef, V.undef, V.undef, (V.int Go.IntKind.i64 iz16), V.undef, V.undef, V.undef, V.undef, V.undef, V.undef, V.undef, V.undef, V.undef, V.undef, V.undef, V.undef, V.undef, V.undef, V.undef, V.undef, V.undef, V.undef, V.undef, V.undef, V.undef, V.undef, V.undef, V.undef, V.undef, V.undef, V.undef, V.undef, V.undef, V.undef, V.undef, V.undef, V.undef, V.undef, V.undef, V.undef, V.undef, V.undef, V.undef, V.undef, V.undef, V.undef, V.undef, V.undef, V.undef, V.undef, V.undef, V.undef, V.undef, V.undef, V.undef, V.undef, V.undef, V.undef, V.undef, V.undef], []⟩ h)) := wpA_at f61_n11110010111_plug (by kernel_rfl)
theorem f61_end1 (l0 : Nat) (o1 : Nat) (n2 : Nat) (c3 : Nat) (x4 : Int) (x5 : Int) (b6 : Bool) (h : Heap) (K : V → Heap → Prop) : bodyK Try.prog Try.f61 K Ex.normal ⟨[(V.sref 6 l0 o1 n2 c3), (V.int Go.IntKind.i64 x4), (V.fn (Fn.func 47) [] []), V.undef, V.undef, V.undef, (V.int Go.IntKind.i64 x5), V.undef, V.undef, V.undef, V.undef, V.undef, V.undef, V.undef, V.undef, V.undef, V.undef, V.undef, V.undef, V.undef, V.undef, V.undef, V.undef, V.undef, V.undef, V.undef, V.undef, V.undef, V.undef, V.undef, (V.bool b6), V.undef, V.undef, V.undef, V.undef, V.undef, V.undef, V.undef, V.undef, V.undef, V.undef, V.undef, V.undef, V.undef, V.undef, V.undef, V.undef, V.undef, V.undef, V.undef, V.undef, V.undef, V.undef, V.undef, V.undef, V.undef, V.undef, V.undef, V.undef, V.undef, V.undef, V.undef, V.undef], []⟩ h = (K (V.tup []) h) := by kernel_rfl
end

section
set_option linter.all false
set_option maxRecDepth 100000
open Go Go.Proofs Jb
def f46_cf : Cfg := ⟨[], [(0, [0, 1, 4, 5, 6, 7, 8])]⟩
noncomputable def f46_b : Code := bodyOf Try.f46
noncomputable def f46_n : Code :=  (codeAt [] f46_b)
theorem f46_entry (d : Nat) (d_o : Nat) (d_n : Nat) (d_c : Nat) (h : Heap) (K : V → Heap → Prop) : bodyW Try.prog f46_cf Try.f46 [(V.sref 6 d d_o d_n d_c), (V.fn (Fn.func 47) [] [])] h K = wpA Try.prog f46_cf f46_n ⟨[(V.sref 6 d d_o d_n d_c), (V.fn (Fn.func 47) [] []), V.undef, V.undef, V.undef, V.undef, V.undef, V.undef, V.undef], []⟩ h (bodyK Try.prog Try.f46 K) := by kernel_rfl
theorem f46_n_plug : f46_n = (codeAt [] f46_b) := by
  simp only [f46_n, hide_eq]
  try kernel_rfl
theorem f46_n_wp (d : Nat) (d_o : Nat) (d_n : Nat) (d_c : Nat) (h : Heap) (Q : Ex → Fr → Heap → Prop) : wpA Try.prog f46_cf f46_n ⟨[(V.sref 6 d d_o d_n d_c), (V.fn (Fn.func 47) [] []), V.undef, V.undef, V.undef, V.undef, V.undef, V.undef, V.undef], []⟩ h Q =
 (AnyW Try.prog 61 [(V.sref 6 d d_o d_n d_c), (V.int Go.IntKind.i64 (d_n : Int)), (V.fn (Fn.func 47) [] [])] h (fun (rz1 : V) (hz2 : Heap) =>
 (V.isTup 0 rz1 = true ∧ (Q Ex.normal ⟨[V.undef, V.undef, V.undef, V.undef, V.undef, V.undef, V.undef, V.undef, V.undef], []⟩ hz2)))) := wpA_at f46_n_plug (by kernel_rfl)
theorem f46_end1 (h : Heap) (K : V → Heap → Prop) : bodyK Try.prog Try.f46 K Ex.normal ⟨[V.undef, V.undef, V.undef, V.undef, V.undef, V.undef, V.undef, V.undef, V.undef], []⟩ h = (K (V.tup []) h) := by kernel_rfl
end

section
open Go Go.Proofs Jb
set_option linter.unusedSimpArgs false

theorem wmul2 (a : Nat) (h : a < 1000000000) : IntKind.i64.wrap ((2 : Int) * (a : Int)) = ((2 * a : Nat) : Int) := by rw [Go.IntWalk.i64_in] <;> omega
theorem wmul2' (a : Nat) (h : a < 1000000000) : IntKind.i64.wrap ((a : Int) * (2 : Int)) = ((2 * a : Nat) : Int) := by rw [Go.IntWalk.i64_in] <;> omega

/-- Who are in the same block of w are in order, up to z. -/
def Blk (rs : List Odr) (w z : Nat) : Prop := ∀ i j, i < j → j < z → i / w = j / w → Le2 (go rs i) (go rs j)

theorem blk_lo {i j w t : Nat} (h : i / w = j / w) (h2 : t * w ≤ j) (hw : 0 < w) : t * w ≤ i := by
  have h3 : t ≤ j / w := (Nat.le_div_iff_mul_le hw).2 h2
  rw [← h] at h3
  exact (Nat.le_div_iff_mul_le hw).1 h3
theorem blk_hi {i j w t : Nat} (h : i / w = j / w) (h2 : i < t * w) (hw : 0 < w) : j < t * w := by
  have h3 : i / w < t := (Nat.div_lt_iff_lt_mul hw).2 h2
  rw [h] at h3
  exact (Nat.div_lt_iff_lt_mul hw).1 h3

/-- One block more. -/
theorem Blk.next {rs rs' : List Odr} {w t z : Nat} (hw : 0 < w) (s : Blk rs w (t * w)) (hz : z ≤ t * w + w) (m : Mv rs rs' (t * w) z) (o : Srt rs' (t * w) z) : Blk rs' w z := by
  intro i j h1 h2 h3
  by_cases c : j < t * w
  · rw [m.out i (by omega), m.out j (by omega)]; exact s i j h1 c h3
  · exact o i j (blk_lo h3 (by omega) hw) h1 h2

theorem zero_ins (l o n c : Nat) (h : Heap) {K : V → Heap → Prop} (m : K (.tup []) h) : AnyW Try.prog 72 [.sref 6 l o n c, .int .i64 0, .int .i64 0, .fn (Fn.func 47) [] []] h K := by
  refine AnyW.of (by kernel_rfl) (K0 := fun r h' => r = .tup [] ∧ h' = h) (CallW.body mix f72_cf Try.func72 (by rw [Try.ntmps72]; simp) ?_) (fun r h' e => by obtain ⟨rfl, rfl⟩ := e; exact m)
  rw [f72_entry, f72_n_wp, f72_n10_eq]
  refine wpA_loop (σ := Unit) (fun s => f72_n100_F l o n c 0 0 1) (fun s => h) (fun s => 0) (fun _ => True) () (by simp [f72_n100_F]; rfl) rfl trivial ?_
  rintro _ _
  simp only [f72_n100_F]
  rw [f72_n100_wp, show decide ((1 : Int) < 0) = false from rfl, brW_false]
  simp only [seqK_exit, blockK_exit, if_true]
  rw [f72_end1]
  exact ⟨rfl, rfl⟩

theorem zero_stable (l o n c : Nat) (h : Heap) {K : V → Heap → Prop} (m : K (.tup []) h) : AnyW Try.prog 61 [.sref 6 l o n c, .int .i64 0, .fn (Fn.func 47) [] []] h K := by
  refine AnyW.of (by kernel_rfl) (K0 := fun r h' => r = .tup [] ∧ h' = h) (CallW.body mix f61_cf Try.func61 (by rw [Try.ntmps61]; simp) ?_) (fun r h' e => by obtain ⟨rfl, rfl⟩ := e; exact m)
  rw [f61_entry, f61_n_wp, f61_n11_eq, wpA_seq, f61_n110_wp, f61_n1100_eq]
  refine wpA_loop (σ := Unit) (fun s => f61_n11000_F l o n c 0 20 0 20) (fun s => h) (fun s => 0) (fun _ => True) () (by simp [f61_n11000_F]) rfl trivial ?_
  rintro _ _
  simp only [f61_n11000_F]
  rw [f61_n11000_wp, show decide ((20 : Int) ≤ 0) = false from rfl, brW_false]
  simp only [seqK_exit, blockK_exit, if_true, seqK_normal]
  rw [f61_n111_wp]
  refine zero_ins l o n c h ⟨rfl, ?_⟩
  rw [f61_n11110_eq]
  refine wpA_loop (σ := Unit) (fun s => f61_n111100_F l o n c 0 20) (fun s => h) (fun s => 0) (fun _ => True) () (by simp [f61_n111100_F]) rfl trivial ?_
  rintro _ _
  simp only [f61_n111100_F]
  rw [f61_n111100_wp, show decide ((20 : Int) < 0) = false from rfl, brW_false]
  simp only [seqK_exit, blockK_exit, if_true, seqK_normal]
  rw [f61_end1]
  exact ⟨rfl, rfl⟩

theorem stable_call (l c : Nat) (rs : List Odr) (rest : List V) (h : Heap) (hn : rs.length ≤ 1000000) (h0 : 0 < rs.length) :
    CallW Try.prog 61 [.sref 6 l 0 rs.length c, .int .i64 rs.length, .fn (Fn.func 47) [] []] (T l rs rest h) (fun r h' => r = .tup [] ∧ ∃ rs', h' = T l rs' rest h ∧ Mv rs rs' 0 rs.length ∧ Srt rs' 0 rs.length) := by
  refine CallW.body mix f61_cf Try.func61 (by rw [Try.ntmps61]; simp) ?_
  rw [f61_entry, f61_n_wp, f61_n11_eq, wpA_seq, f61_n110_wp, f61_n1100_eq]
  refine wpA_loop (σ := Nat × List Odr) (fun s => f61_n11000_F l 0 rs.length c rs.length 20 (s.1 * 20 : Nat) (s.1 * 20 + 20 : Nat)) (fun s => T l s.2 rest h) (fun s => rs.length - s.1 * 20)
    (fun s => s.1 * 20 ≤ rs.length ∧ Mv rs s.2 0 rs.length ∧ Blk s.2 20 (s.1 * 20)) (0, rs) (by simp [f61_n11000_F]) rfl ⟨by simp, .refl _ _ _, fun i j _ h2 => by omega⟩ ?_
  rintro ⟨t, qs⟩ ⟨g1, g2, g3⟩
  simp only at g1 g2 g3
  have ql := g2.len
  simp only [f61_n11000_F]
  rw [f61_n11000_wp, ← ql]
  by_cases c1 : t * 20 + 20 ≤ qs.length
  · rw [show decide (((t * 20 + 20 : Nat) : Int) ≤ (qs.length : Int)) = true from decide_eq_true (by omega), brW_true]
    refine ins_any l c (t * 20) (t * 20 + 20) qs rest h c1 (by omega) (by omega) fun qs' m' s' => ⟨rfl, ?_⟩
    simp only [show IntKind.i64.wrap (((t * 20 + 20 : Nat) : Int) + 20) = ((t * 20 + 20 + 20 : Nat) : Int) from by rw [Go.IntWalk.i64_in] <;> omega]
    refine ⟨(t + 1, qs'), by rw [show (t + 1) * 20 = t * 20 + 20 from by omega], rfl, ⟨by simp only; omega, by rw [ql]; exact g2.trans (m'.widen (Nat.zero_le _) (by omega)), ?_⟩, by simp only; omega⟩
    rw [show (t + 1) * 20 = t * 20 + 20 from by omega]
    exact g3.next (by omega) (Nat.le_refl _) m' s'
  · rw [show decide (((t * 20 + 20 : Nat) : Int) ≤ (qs.length : Int)) = false from decide_eq_false (by omega), brW_false]
    simp only [seqK_exit, blockK_exit, if_true, seqK_normal]
    rw [f61_n111_wp]
    refine ins_any l c (t * 20) qs.length qs rest h (Nat.le_refl _) (by omega) (by omega) fun ps mp sp => ⟨rfl, ?_⟩
    have b0 : Blk ps 20 qs.length := g3.next (by omega) (by omega) mp sp
    have m0 : Mv rs ps 0 rs.length := g2.trans (mp.widen (Nat.zero_le _) (by omega))
    clear mp sp g3 g1 c1
    rw [ql] at b0 ⊢
    clear ql
    rw [f61_n11110_eq]
    refine wpA_loop (σ := Nat × List Odr) (fun s => f61_n111100_F l 0 rs.length c rs.length s.1) (fun s => T l s.2 rest h) (fun s => rs.length - s.1)
      (fun s => 20 ≤ s.1 ∧ s.1 ≤ 2000000 ∧ Mv rs s.2 0 rs.length ∧ Blk s.2 s.1 rs.length) (20, ps) (by simp [f61_n111100_F]) rfl ⟨by simp, by simp, m0, b0⟩ ?_
    clear m0 b0
    rintro ⟨w, ys⟩ ⟨k1, k2, k3, k4⟩
    simp only at k1 k2 k3 k4
    have yl := k3.len
    simp only [f61_n111100_F]
    rw [f61_n111100_wp]
    by_cases c2 : w < rs.length
    · rw [show decide ((w : Int) < (rs.length : Int)) = true from decide_eq_true (by omega), brW_true]
      simp only [wmul2 w (by omega)]
      rw [f61_n111100101_eq, wpA_seq, f61_n1111001010_wp, f61_n11110010100_eq]
      refine wpA_loop (σ := Nat × List Odr) (fun s => f61_n111100101000_F l 0 rs.length c rs.length w (s.1 * (2 * w) : Nat) (s.1 * (2 * w) + 2 * w : Nat)) (fun s => T l s.2 rest h) (fun s => rs.length - s.1 * (2 * w))
        (fun s => s.1 * (2 * w) ≤ rs.length ∧ Mv ys s.2 0 rs.length ∧ Blk s.2 (2 * w) (s.1 * (2 * w)) ∧ ∀ i j, s.1 * (2 * w) ≤ i → i < j → j < rs.length → i / w = j / w → Le2 (go s.2 i) (go s.2 j)) (0, ys)
        (by simp [f61_n111100101000_F]) rfl ⟨by simp, .refl _ _ _, fun i j _ h2 => by simp at h2, fun i j _ h2 h3 h4 => k4 i j h2 h3 h4⟩ ?_
      rintro ⟨t, zs⟩ ⟨z1, z2, z3, z4⟩
      simp only at z1 z2 z3 z4
      have zl := z2.len
      have e0 : (t + 1) * (2 * w) = t * (2 * w) + 2 * w := Nat.succ_mul _ _
      have e1 : t * (2 * w) = 2 * t * w := by rw [Nat.mul_comm 2 t, Nat.mul_assoc]
      have e2 : (2 * t + 1) * w = t * (2 * w) + w := by rw [Nat.succ_mul, e1]
      have e3 : (2 * t + 2) * w = t * (2 * w) + 2 * w := by rw [Nat.add_mul, e1]
      -- the two pieces
      have p1 : ∀ z, z ≤ t * (2 * w) + w → z ≤ rs.length → Srt zs (t * (2 * w)) z := fun z q1 q2 i j a1 a2 a3 =>
        z4 i j a1 a2 (by omega) ((Nat.div_eq_of_lt_le (k := 2 * t) (by rw [← e1]; omega) (by rw [e2]; omega)).trans (Nat.div_eq_of_lt_le (k := 2 * t) (by rw [← e1]; omega) (by rw [e2]; omega)).symm)
      have p2 : ∀ z, z ≤ t * (2 * w) + 2 * w → z ≤ rs.length → Srt zs (t * (2 * w) + w) z := fun z q1 q2 i j a1 a2 a3 =>
        z4 i j (by omega) a2 (by omega) ((Nat.div_eq_of_lt_le (k := 2 * t + 1) (by rw [e2]; omega) (by rw [e3]; omega)).trans (Nat.div_eq_of_lt_le (k := 2 * t + 1) (by rw [e2]; omega) (by rw [e3]; omega)).symm)
      simp only [f61_n111100101000_F]
      rw [f61_n111100101000_wp]
      by_cases c3 : t * (2 * w) + 2 * w ≤ rs.length
      · rw [show decide (((t * (2 * w) + 2 * w : Nat) : Int) ≤ (rs.length : Int)) = true from decide_eq_true (by omega), brW_true]
        simp only [wadd (t * (2 * w)) w (by omega), wmul2 w (by omega), wadd (t * (2 * w) + 2 * w) (2 * w) (by omega)]
        have hh := sym_any l c rest (2 * w + 1) (t * (2 * w)) (t * (2 * w) + w) (t * (2 * w) + 2 * w) zs h
        rw [zl, yl] at hh
        refine hh _ (by omega) (by omega) (by omega) (by omega) (by omega) (p1 _ (Nat.le_refl _) (by omega)) (p2 _ (Nat.le_refl _) c3) fun xs mx sx => ⟨rfl, ?_⟩
        refine ⟨(t + 1, xs), by rw [e0], rfl, ⟨by simp only; rw [e0]; exact c3, z2.trans (mx.widen (Nat.zero_le _) c3), ?_, ?_⟩, by simp only; rw [e0]; omega⟩
        · simp only
          rw [e0]
          exact z3.next (by omega) (Nat.le_refl _) mx sx
        · simp only
          rw [e0]
          intro i j a1 a2 a3 a4
          rw [mx.out i (by omega), mx.out j (by omega)]
          exact z4 i j (by omega) a2 a3 a4
      · rw [show decide (((t * (2 * w) + 2 * w : Nat) : Int) ≤ (rs.length : Int)) = false from decide_eq_false (by omega), brW_false]
        simp only [seqK_exit, blockK_exit, if_true, seqK_normal]
        rw [f61_n1111001011_eq, wpA_seq, f61_n11110010110_wp]
        simp only [wadd (t * (2 * w)) w (by omega)]
        by_cases c4 : t * (2 * w) + w < rs.length
        · rw [show decide (((t * (2 * w) + w : Nat) : Int) < (rs.length : Int)) = true from decide_eq_true (by omega), brW_true]
          have hh := sym_any l c rest (2 * w + 1) (t * (2 * w)) (t * (2 * w) + w) rs.length zs h
          rw [zl, yl] at hh
          refine hh _ (by omega) (by omega) (by omega) (by omega) (by omega) (p1 _ (Nat.le_refl _) (by omega)) (p2 _ (by omega) (by omega)) fun xs mx sx => ⟨rfl, ?_⟩
          simp only [seqK_normal]
          rw [f61_n11110010111_wp]
          simp only [wmul2' w (by omega)]
          exact ⟨(2 * w, xs), rfl, rfl, ⟨by simp only; omega, by simp only; omega, k3.trans (z2.trans (mx.widen (Nat.zero_le _) (by omega))), show Blk xs (2 * w) rs.length from z3.next (by omega) (by omega) mx sx⟩, by simp only; omega⟩
        · rw [show decide (((t * (2 * w) + w : Nat) : Int) < (rs.length : Int)) = false from decide_eq_false (by omega), brW_false]
          simp only [seqK_normal]
          rw [f61_n11110010111s1_wp]
          simp only [wmul2' w (by omega)]
          exact ⟨(2 * w, zs), rfl, rfl, ⟨by simp only; omega, by simp only; omega, k3.trans z2, show Blk zs (2 * w) rs.length from z3.next (by omega) (by omega) (.refl _ _ _) (p1 _ (by omega) (Nat.le_refl _))⟩, by simp only; omega⟩
    · rw [show decide ((w : Int) < (rs.length : Int)) = false from decide_eq_false (by omega), brW_false]
      simp only [seqK_exit, blockK_exit, if_true, seqK_normal]
      rw [f61_end1]
      exact ⟨rfl, ys, rfl, k3, fun i j a1 a2 a3 => k4 i j a2 a3 (by rw [Nat.div_eq_of_lt (by omega), Nat.div_eq_of_lt (by omega)])⟩

/-- slices.SortStableFunc. -/
theorem sort_any (l c : Nat) (rs : List Odr) (rest : List V) (h : Heap) (hn : rs.length ≤ 1000000) (h0 : 0 < rs.length) {K : V → Heap → Prop}
    (m : ∀ rs', Mv rs rs' 0 rs.length → Srt rs' 0 rs.length → K (.tup []) (T l rs' rest h)) :
    AnyW Try.prog 46 [.sref 6 l 0 rs.length c, .fn (Fn.func 47) [] []] (T l rs rest h) K := by
  refine AnyW.of (by kernel_rfl) (K0 := K) (CallW.body mix f46_cf Try.func46 (by rw [Try.ntmps46]; simp) ?_) (fun _ _ k => k)
  rw [f46_entry, f46_n_wp]
  refine AnyW.of (by kernel_rfl) (stable_call l c rs rest h hn h0) ?_
  rintro r h' ⟨rfl, rs', rfl, e1, e2⟩
  refine ⟨rfl, ?_⟩
  rw [f46_end1]
  exact m rs' e1 e2
theorem sort_zero (l o c : Nat) (h : Heap) {K : V → Heap → Prop} (m : K (.tup []) h) : AnyW Try.prog 46 [.sref 6 l o 0 c, .fn (Fn.func 47) [] []] h K := by
  refine AnyW.of (by kernel_rfl) (K0 := K) (CallW.body mix f46_cf Try.func46 (by rw [Try.ntmps46]; simp) ?_) (fun _ _ k => k)
  rw [f46_entry, f46_n_wp]
  refine zero_stable l o 0 c h ⟨rfl, ?_⟩
  rw [f46_end1]
  exact m
end

section
set_option linter.all false
set_option maxRecDepth 100000
open Go Go.Proofs Jb
def f22_cf : Cfg := ⟨[], [(0, [0, 1, 4]), (1, [5, 6, 7, 8, 9]), (2, [2, 3, 10]), (3, [2, 3, 10, 11, 12, 13, 14, 15])]⟩
noncomputable def f22_b : Code := bodyOf Try.f22
noncomputable def f22_n : Code :=  (codeAt [] f22_b)
theorem f22_entry (o : List V) (r : List V) (h : Heap) (K : V → Heap → Prop) : bodyW Try.prog f22_cf Try.f22 [(V.agg o), (V.agg r)] h K = wpA Try.prog f22_cf f22_n ⟨[(V.agg o), (V.agg r), V.undef, V.undef, V.undef, V.undef, V.undef, V.undef, V.undef, V.undef, V.undef, V.undef, V.undef, V.undef, V.undef, V.undef], []⟩ h (bodyK Try.prog Try.f22 K) := by kernel_rfl
theorem f22_n_plug : f22_n = (codeAt [] f22_b) := by
  simp only [f22_n, hide_eq]
  try kernel_rfl
theorem f22_n_wp (o : List V) (r : List V) (h : Heap) (Q : Ex → Fr → Heap → Prop) : wpA Try.prog f22_cf f22_n ⟨[(V.agg o), (V.agg r), V.undef, V.undef, V.undef, V.undef, V.undef, V.undef, V.undef, V.undef, V.undef, V.undef, V.undef, V.undef, V.undef, V.undef], []⟩ h Q =
 (((List.length o) = 6) ∧ (((List.length r) = 9) ∧ ((1 < (List.length r) ∧ V.isSl 2 (gv r 1) = true) ∧ ((3 < (List.length o) ∧ V.isInt Go.IntKind.i64 (gv o 3) = true) ∧ (AnyW Try.prog 50 [(V.sl 2 (V.els (gv r 1)) (V.right (gv r 1))), (V.int Go.IntKind.i64 (V.num (gv o 3)))] h (fun (rz1 : V) (hz2 : Heap) =>
 ((True ∧ V.isBool rz1 = true) ∧ (brW (!(V.flag rz1))
 (Q Ex.ret ⟨[V.undef, V.undef, V.undef, V.undef, (V.int Go.IntKind.i64 (40 : Int)), V.undef, V.undef, V.undef, V.undef, V.undef, V.undef, V.undef, V.undef, V.undef, V.undef, V.undef], []⟩ hz2)
 ((2 < (List.length r) ∧ V.isInt Go.IntKind.i64 (gv r 2) = true) ∧ ((4 < (List.length o) ∧ V.isInt Go.IntKind.i64 (gv o 4) = true) ∧ (AnyW Try.prog 51 [(V.int Go.IntKind.i64 (V.num (gv r 2))), (V.int Go.IntKind.i64 (V.num (gv o 4)))] hz2 (fun (rz3 : V) (hz4 : Heap) =>
 ((True ∧ V.isInt Go.IntKind.i64 rz3 = true) ∧ (Q Ex.ret ⟨[V.undef, V.undef, V.undef, V.undef, (V.int Go.IntKind.i64 (V.num rz3)), V.undef, V.undef, V.undef, V.undef, V.undef, V.undef, V.undef, V.undef, V.undef, V.undef, V.undef], []⟩ hz4)))))))))))))) := wpA_at f22_n_plug (by kernel_rfl)
theorem f22_end1 (x0 : Int) (h : Heap) (K : V → Heap → Prop) : bodyK Try.prog Try.f22 K Ex.ret ⟨[V.undef, V.undef, V.undef, V.undef, (V.int Go.IntKind.i64 x0), V.undef, V.undef, V.undef, V.undef, V.undef, V.undef, V.undef, V.undef, V.undef, V.undef, V.undef], []⟩ h = (K (V.int Go.IntKind.i64 x0) h) := by kernel_rfl
end

section
set_option linter.all false
set_option maxRecDepth 100000
open Go Go.Proofs Jb
def f23_cf : Cfg := ⟨[], [(0, [0, 1, 4]), (1, [5, 6, 7, 8, 9]), (2, [2, 3, 10]), (3, [2, 3, 10, 11, 12, 13, 14, 15])]⟩
noncomputable def f23_b : Code := bodyOf Try.f23
noncomputable def f23_n : Code :=  (codeAt [] f23_b)
theorem f23_entry (o : List V) (r : List V) (h : Heap) (K : V → Heap → Prop) : bodyW Try.prog f23_cf Try.f23 [(V.agg o), (V.agg r)] h K = wpA Try.prog f23_cf f23_n ⟨[(V.agg o), (V.agg r), V.undef, V.undef, V.undef, V.undef, V.undef, V.undef, V.undef, V.undef, V.undef, V.undef, V.undef, V.undef, V.undef, V.undef], []⟩ h (bodyK Try.prog Try.f23 K) := by kernel_rfl
theorem f23_n_plug : f23_n = (codeAt [] f23_b) := by
  simp only [f23_n, hide_eq]
  try kernel_rfl
theorem f23_n_wp (o : List V) (r : List V) (h : Heap) (Q : Ex → Fr → Heap → Prop) : wpA Try.prog f23_cf f23_n ⟨[(V.agg o), (V.agg r), V.undef, V.undef, V.undef, V.undef, V.undef, V.undef, V.undef, V.undef, V.undef, V.undef, V.undef, V.undef, V.undef, V.undef], []⟩ h Q =
 (((List.length o) = 6) ∧ (((List.length r) = 9) ∧ ((0 + 9 ≤ (List.length r)) ∧ (let cz1 : List V := (List.take 9 (List.drop 0 r));
 ((3 < (List.length o) ∧ V.isInt Go.IntKind.i64 (gv o 3) = true) ∧ (AnyW Try.prog 53 [(V.agg cz1)] h (fun (rz2 : V) (hz3 : Heap) =>
 ((True ∧ V.isSl 2 rz2 = true) ∧ (((3 < (List.length o) ∧ V.isInt Go.IntKind.i64 (gv o 3) = true) ∧ (V.int Go.IntKind.i64 (V.num (gv o 3))) = (V.int Go.IntKind.i64 (V.num (gv o 3)))) ∧ (AnyW Try.prog 52 [(V.sl 2 (V.els rz2) (V.right rz2)), (V.int Go.IntKind.i64 (V.num (gv o 3)))] hz3 (fun (rz4 : V) (hz5 : Heap) =>
 ((True ∧ V.isBool rz4 = true) ∧ (brW (!(V.flag rz4))
 (Q Ex.ret ⟨[V.undef, V.undef, V.undef, V.undef, (V.int Go.IntKind.i64 (40 : Int)), V.undef, V.undef, V.undef, V.undef, V.undef, V.undef, V.undef, V.undef, V.undef, V.undef, V.undef], []⟩ hz5)
 ((2 < (List.length r) ∧ V.isInt Go.IntKind.i64 (gv r 2) = true) ∧ ((4 < (List.length o) ∧ V.isInt Go.IntKind.i64 (gv o 4) = true) ∧ (AnyW Try.prog 54 [(V.int Go.IntKind.i64 (V.num (gv r 2))), (V.int Go.IntKind.i64 (V.num (gv o 4)))] hz5 (fun (rz6 : V) (hz7 : Heap) =>
 ((True ∧ V.isInt Go.IntKind.i64 rz6 = true) ∧ (Q Ex.ret ⟨[V.undef, V.undef, V.undef, V.undef, (V.int Go.IntKind.i64 (V.num rz6)), V.undef, V.undef, V.undef, V.undef, V.undef, V.undef, V.undef, V.undef, V.undef, V.undef, V.undef], []⟩ hz7))))))))))))))))))) := wpA_at f23_n_plug (by kernel_rfl)
theorem f23_end1 (x0 : Int) (h : Heap) (K : V → Heap → Prop) : bodyK Try.prog Try.f23 K Ex.ret ⟨[V.undef, V.undef, V.undef, V.undef, (V.int Go.IntKind.i64 x0), V.undef, V.undef, V.undef, V.undef, V.undef, V.undef, V.undef, V.undef, V.undef, V.undef, V.undef], []⟩ h = (K (V.int Go.IntKind.i64 x0) h) := by kernel_rfl
end

section
set_option linter.all false
set_option maxRecDepth 100000
open Go Go.Proofs Jb
def f45_cf : Cfg := ⟨[], [(0, [0, 3]), (1, [1, 2, 4, 5, 6, 7])]⟩
noncomputable def f45_b : Code := bodyOf Try.f45
noncomputable def f45_n : Code :=  (codeAt [] f45_b)
theorem f45_entry (o : List V) (l : Nat) (h : Heap) (K : V → Heap → Prop) : bodyW Try.prog f45_cf Try.f45 [(V.agg o), (V.ptr l 0)] h K = wpA Try.prog f45_cf f45_n ⟨[(V.agg o), (V.ptr l 0), V.undef, V.undef, V.undef, V.undef, V.undef, V.undef], []⟩ h (bodyK Try.prog Try.f45 K) := by kernel_rfl
theorem f45_n_plug : f45_n = (codeAt [] f45_b) := by
  simp only [f45_n, hide_eq]
  try kernel_rfl
theorem f45_n_wp (o : List V) (l : Nat) (h : Heap) (Q : Ex → Fr → Heap → Prop) : wpA Try.prog f45_cf f45_n ⟨[(V.agg o), (V.ptr l 0), V.undef, V.undef, V.undef, V.undef, V.undef, V.undef], []⟩ h Q =
 (((List.length o) = 6) ∧ ((0 + 6 ≤ (List.length o)) ∧ (let cz1 : List V := (List.take 6 (List.drop 0 o));
 ((0 + 9 ≤ (List.length (cellsAt h l))) ∧ (let cz2 : List V := (List.take 9 (List.drop 0 (cellsAt h l)));
 (AnyW Try.prog 22 [(V.agg cz1), (V.agg cz2)] h (fun (rz3 : V) (hz4 : Heap) =>
 ((True ∧ V.isInt Go.IntKind.i64 rz3 = true) ∧ (let bz5 : Bool := ((V.num rz3) != (0 : Int));
 (Q Ex.ret ⟨[V.undef, V.undef, V.undef, (V.bool bz5), V.undef, V.undef, V.undef, V.undef], []⟩ hz4)))))))))) := wpA_at f45_n_plug (by kernel_rfl)
theorem f45_end1 (b0 : Bool) (h : Heap) (K : V → Heap → Prop) : bodyK Try.prog Try.f45 K Ex.ret ⟨[V.undef, V.undef, V.undef, (V.bool b0), V.undef, V.undef, V.undef, V.undef], []⟩ h = (K (V.bool b0) h) := by kernel_rfl
end

section
set_option linter.all false
set_option maxRecDepth 100000
open Go Go.Proofs Jb
def f16_cf : Cfg := ⟨[], [(0, [0, 2]), (1, [1, 3, 4, 5, 6, 7, 8, 9, 10, 11, 12])]⟩
noncomputable def f16_b : Code := bodyOf Try.f16
noncomputable def f16_n : Code :=  (codeAt [] f16_b)
theorem f16_entry (r : List V) (h : Heap) (K : V → Heap → Prop) : bodyW Try.prog f16_cf Try.f16 [(V.agg r)] h K = wpA Try.prog f16_cf f16_n ⟨[(V.agg r), V.undef, V.undef, V.undef, V.undef, V.undef, V.undef, V.undef, V.undef, V.undef, V.undef, V.undef, V.undef], []⟩ h (bodyK Try.prog Try.f16 K) := by kernel_rfl
theorem f16_n_plug : f16_n = (codeAt [] f16_b) := by
  simp only [f16_n, hide_eq]
  try kernel_rfl
theorem f16_n_wp (r : List V) (h : Heap) (Q : Ex → Fr → Heap → Prop) : wpA Try.prog f16_cf f16_n ⟨[(V.agg r), V.undef, V.undef, V.undef, V.undef, V.undef, V.undef, V.undef, V.undef, V.undef, V.undef, V.undef, V.undef], []⟩ h Q =
 (((List.length r) = 9) ∧ ((1 < (List.length r) ∧ V.isSl 2 (gv r 1) = true) ∧ (let iz1 : Int := ((List.length (V.els (gv r 1))) : Int);
 (let bz2 : Bool := (decide (iz1 ≤ (20 : Int)));
 ((bz2 = true → bz2 = true) ∧ ((bz2 = true → (4 < (List.length r) ∧ V.isSl 3 (gv r 4) = true)) ∧ ((bz2 = true → bz2 = true) ∧ (let iz3 : Int := ((List.length (V.els (gv r 4))) : Int);
 ((bz2 = true → bz2 = true) ∧ (let bz4 : Bool := (decide (iz3 ≤ (20 : Int)));
 (((bz2 = true → bz2 = true) ∧ True) ∧ (Q Ex.ret ⟨[V.undef, V.undef, (V.bool (cond bz2 bz4 false)), V.undef, V.undef, V.undef, V.undef, V.undef, V.undef, V.undef, V.undef, V.undef, V.undef], []⟩ h)))))))))))) := wpA_at f16_n_plug (by kernel_rfl)
theorem f16_end1 (b0 : Bool) (h : Heap) (K : V → Heap → Prop) : bodyK Try.prog Try.f16 K Ex.ret ⟨[V.undef, V.undef, (V.bool b0), V.undef, V.undef, V.undef, V.undef, V.undef, V.undef, V.undef, V.undef, V.undef, V.undef], []⟩ h = (K (V.bool b0) h) := by kernel_rfl
end

section
set_option linter.all false
set_option maxRecDepth 100000
open Go Go.Proofs Jb
def f44_cf : Cfg := ⟨[], [(1, [1, 2, 3, 4, 5])]⟩
noncomputable def f44_b : Code := bodyOf Try.f44
noncomputable def f44_n : Code :=  (codeAt [] f44_b)
theorem f44_entry (h : Heap) (K : V → Heap → Prop) : bodyW Try.prog f44_cf Try.f44 [] h K = wpA Try.prog f44_cf f44_n ⟨[V.undef, V.undef, V.undef, V.undef, V.undef, V.undef], []⟩ h (bodyK Try.prog Try.f44 K) := by kernel_rfl
theorem f44_n_plug : f44_n = (codeAt [] f44_b) := by
  simp only [f44_n, hide_eq]
  try kernel_rfl
theorem f44_n_wp (h : Heap) (Q : Ex → Fr → Heap → Prop) : wpA Try.prog f44_cf f44_n ⟨[V.undef, V.undef, V.undef, V.undef, V.undef, V.undef], []⟩ h Q =
 (True ∧ ((True ∧ True) ∧ (((2 = 2) ∧ True) ∧ ((True ∧ (True ∧ True)) ∧ (((3 = 3) ∧ True) ∧ ((True ∧ (True ∧ (True ∧ (True ∧ (True ∧ (True ∧ (True ∧ (True ∧ True)))))))) ∧ ((9 = 9) ∧ 0 + 9 ≤ 9 ∧ (Q Ex.ret ⟨[(V.lp 0 0), V.undef, V.undef, V.undef, V.undef, V.undef], [(0, [(V.int Go.IntKind.i64 (1 : Int)), (V.sl 2 [[(V.int Go.IntKind.i64 (0 : Int)), (V.int Go.IntKind.i64 (5 : Int))]] G.full), (V.int Go.IntKind.i64 (10 : Int)), (V.int Go.IntKind.i64 (0 : Int)), (V.sl 3 [[(V.int Go.IntKind.i64 (0 : Int)), (V.int Go.IntKind.i64 (100 : Int)), (V.int Go.IntKind.i64 (200 : Int))]] G.full), (V.int Go.IntKind.i64 (2 : Int)), (V.int Go.IntKind.i64 (1 : Int)), (V.int Go.IntKind.i64 (2 : Int)), (V.int Go.IntKind.i64 (1 : Int))])]⟩ h)))))))) := wpA_at f44_n_plug (by kernel_rfl)
theorem f44_end1 (c0 : List V) (h : Heap) (K : V → Heap → Prop) : bodyK Try.prog Try.f44 K Ex.ret ⟨[(V.lp 0 0), V.undef, V.undef, V.undef, V.undef, V.undef], [(0, c0)]⟩ h = ((0 + 9 ≤ (List.length c0)) ∧ (let cz1 : List V := (List.take 9 (List.drop 0 c0));
 (K (V.agg cz1) h))) := by kernel_rfl
end

section
set_option linter.all false
set_option maxRecDepth 100000
open Go Go.Proofs Jb
def f20_cf : Cfg := ⟨[], [(0, [2]), (2, [0]), (4, [9, 10, 11]), (5, [5, 12, 13, 14, 15]), (6, [16]), (7, [3, 6, 7, 8, 9, 17])]⟩
noncomputable def f20_b : Code := bodyOf Try.f20
noncomputable def f20_n : Code :=  (codeAt [] f20_b)
noncomputable def f20_n11 : Code := hide (codeAt [1, 1] f20_b)
noncomputable def f20_n110 : Code := hide (codeAt [1, 1, 0] f20_b)
noncomputable def f20_n11010 : Code := hide (codeAt [1, 1, 0, 1, 0] f20_b)
noncomputable def f20_n110100 : Code := hide (codeAt [1, 1, 0, 1, 0, 0] f20_b)
noncomputable def f20_n111 : Code := hide (codeAt [1, 1, 1] f20_b)
theorem f20_entry (l : List (List V)) (l_g : G) (h : Heap) (K : V → Heap → Prop) : bodyW Try.prog f20_cf Try.f20 [(V.sl 6 l l_g)] h K = wpA Try.prog f20_cf f20_n ⟨[(V.sl 6 l l_g), V.undef, V.undef, V.undef, V.undef, V.undef, V.undef, V.undef, V.undef, V.undef, V.undef, V.undef, V.undef, V.undef, V.undef, V.undef, V.undef, V.undef], []⟩ h (bodyK Try.prog Try.f20 K) := by kernel_rfl
theorem f20_n_plug : f20_n = (plug [1, 1] (codeAt [] f20_b) f20_n11) := by
  simp only [f20_n, f20_n11, hide_eq]
  try kernel_rfl
theorem f20_n_wp (l : List (List V)) (l_g : G) (h : Heap) (Q : Ex → Fr → Heap → Prop) : wpA Try.prog f20_cf f20_n ⟨[(V.sl 6 l l_g), V.undef, V.undef, V.undef, V.undef, V.undef, V.undef, V.undef, V.undef, V.undef, V.undef, V.undef, V.undef, V.undef, V.undef, V.undef, V.undef, V.undef], []⟩ h Q =
 (wpA Try.prog f20_cf f20_n11 ⟨[(V.sl 6 l l_g), V.undef, V.undef, (V.sl 6 [] G.full), V.undef, V.undef, V.undef, V.undef, V.undef, V.undef, V.undef, V.undef, V.undef, V.undef, V.undef, V.undef, V.undef, V.undef], []⟩ h Q) := wpA_at f20_n_plug (by kernel_rfl)
theorem f20_n11_eq : f20_n11 = Code.seq f20_n110 f20_n111 := by
  simp only [f20_n11, f20_n110, f20_n111, hide_eq]
  kernel_rfl
theorem f20_n110_plug : f20_n110 = (plug [1, 0] (codeAt [1, 1, 0] f20_b) f20_n11010) := by
  simp only [f20_n110, f20_n11010, hide_eq]
  try kernel_rfl
theorem f20_n110_wp (e0 : List (List V)) (g1 : G) (e2 : List (List V)) (g3 : G) (h : Heap) (Q : Ex → Fr → Heap → Prop) : wpA Try.prog f20_cf f20_n110 ⟨[(V.sl 6 e0 g1), V.undef, V.undef, (V.sl 6 e2 g3), V.undef, V.undef, V.undef, V.undef, V.undef, V.undef, V.undef, V.undef, V.undef, V.undef, V.undef, V.undef, V.undef, V.undef], []⟩ h Q =
 (wpA Try.prog f20_cf f20_n11010 ⟨[V.undef, V.undef, V.undef, (V.sl 6 e2 g3), V.undef, V.undef, (V.sl 6 e0 g1), (V.int Go.IntKind.i64 ((List.length e0) : Int)), (V.int Go.IntKind.i64 (0 : Int)), V.undef, V.undef, V.undef, V.undef, V.undef, V.undef, V.undef, V.undef, V.undef], []⟩ h (blockK 0 Q)) := wpA_at f20_n110_plug (by kernel_rfl)
theorem f20_n11010_eq : f20_n11010 = Code.loop f20_n110100 := by
  simp only [f20_n11010, f20_n110100, hide_eq]
  kernel_rfl
def f20_n110100_F (e0 : List (List V)) (g1 : G) (e2 : List (List V)) (g3 : G) (x4 : Int) (x5 : Int) : Fr := ⟨[V.undef, V.undef, V.undef, (V.sl 6 e0 g1), V.undef, V.undef, (V.sl 6 e2 g3), (V.int Go.IntKind.i64 x4), (V.int Go.IntKind.i64 x5), V.undef, V.undef, V.undef, V.undef, V.undef, V.undef, V.undef, V.undef, V.undef], []⟩
theorem f20_n110100_plug : f20_n110100 = (codeAt [1, 1, 0, 1, 0, 0] f20_b) := by
  simp only [f20_n110100, hide_eq]
  try kernel_rfl
theorem f20_n110100_wp (e0 : List (List V)) (g1 : G) (e2 : List (List V)) (g3 : G) (x4 : Int) (x5 : Int) (h : Heap) (Q : Ex → Fr → Heap → Prop) : wpA Try.prog f20_cf f20_n110100 ⟨[V.undef, V.undef, V.undef, (V.sl 6 e0 g1), V.undef, V.undef, (V.sl 6 e2 g3), (V.int Go.IntKind.i64 x4), (V.int Go.IntKind.i64 x5), V.undef, V.undef, V.undef, V.undef, V.undef, V.undef, V.undef, V.undef, V.undef], []⟩ h Q =
 (brW (decide (x5 < x4))
 ((0 ≤ x5 ∧ x5 < (List.length e2)) ∧ ((0 + 6 ≤ (List.length (ge e2 (Int.toNat x5)))) ∧ (let cz1 : List V := (List.take 6 (List.drop 0 (ge e2 (Int.toNat x5))));
 (True ∧ (((List.length cz1) = 6) ∧ 0 + 6 ≤ 6 ∧ (let cz2 : List V := (wrCells [(V.int Go.IntKind.u64 (0 : Int)), (V.int Go.IntKind.i64 (0 : Int)), (V.int Go.IntKind.i64 (0 : Int)), (V.int Go.IntKind.i64 (0 : Int)), (V.int Go.IntKind.i64 (0 : Int)), (V.int Go.IntKind.u64 (0 : Int))] 0 cz1);
 ((0 + 6 ≤ (List.length cz2)) ∧ (let cz3 : List V := (List.take 6 (List.drop 0 cz2));
 ((((List.length cz3) = 6) ∧ True) ∧ ((List.length e0) + 1 ≤ mostLen ∧ appG 6 (List.length e0) 1 g1 h (fun (gz4 : G) (hz5 : Heap) =>
 (let iz6 : Int := (Go.IntKind.wrap Go.IntKind.i64 (x5 + (1 : Int)));
 (Q Ex.normal ⟨[V.undef, V.undef, V.undef, (V.sl 6 (e0 ++ [cz3]) gz4), V.undef, V.undef, (V.sl 6 e2 g3), (V.int Go.IntKind.i64 x4), (V.int Go.IntKind.i64 iz6), V.undef, V.undef, V.undef, V.undef, V.undef, V.undef, V.undef, V.undef, V.undef], []⟩ hz5)))))))))))))
 (Q (Ex.exit 0) ⟨[V.undef, V.undef, V.undef, (V.sl 6 e0 g1), V.undef, V.undef, (V.sl 6 e2 g3), (V.int Go.IntKind.i64 x4), (V.int Go.IntKind.i64 x5), (V.bool (decide (x5 < x4))), V.undef, V.undef, V.undef, V.undef, V.undef, V.undef, V.undef, V.undef], []⟩ h)) := wpA_at f20_n110100_plug (by kernel_rfl)
theorem f20_n111_plug : f20_n111 = (codeAt [1, 1, 1] f20_b) := by
  simp only [f20_n111, hide_eq]
  try kernel_rfl
theorem f20_n111_wp (e0 : List (List V)) (g1 : G) (e2 : List (List V)) (g3 : G) (x4 : Int) (x5 : Int) (b6 : Bool) (h : Heap) (Q : Ex → Fr → Heap → Prop) : wpA Try.prog f20_cf f20_n111 ⟨[V.undef, V.undef, V.undef, (V.sl 6 e0 g1), V.undef, V.undef, (V.sl 6 e2 g3), (V.int Go.IntKind.i64 x4), (V.int Go.IntKind.i64 x5), (V.bool b6), V.undef, V.undef, V.undef, V.undef, V.undef, V.undef, V.undef, V.undef], []⟩ h Q =
 (Q Ex.ret ⟨[V.undef, V.undef, (V.sl 6 e0 g1), V.undef, V.undef, V.undef, V.undef, V.undef, V.undef, V.undef, V.undef, V.undef, V.undef, V.undef, V.undef, V.undef, V.undef, V.undef], []⟩ h) := wpA_at f20_n111_plug (by kernel_rfl)
theorem f20_end1 (e0 : List (List V)) (g1 : G) (h : Heap) (K : V → Heap → Prop) : bodyK Try.prog Try.f20 K Ex.ret ⟨[V.undef, V.undef, (V.sl 6 e0 g1), V.undef, V.undef, V.undef, V.undef, V.undef, V.undef, V.undef, V.undef, V.undef, V.undef, V.undef, V.undef, V.undef, V.undef, V.undef], []⟩ h = (K (V.sl 6 e0 g1) h) := by kernel_rfl
end

section
open Go Go.Proofs Jb
set_option linter.unusedSimpArgs false

/-- Why an order goes. -/
noncomputable def whyO (o : Odr) (r : Rul) : Int := if onT r.ticks o.price then lotW r.lot o.qty else 40

theorem why_call (o : Odr) (r : Rul) (hl : r.ticks.length < 1000000) (h : Heap) : CallW Try.prog 22 [.agg (ocs o), .agg (rcs r)] h (fun v h' => v = .int .i64 (whyO o r) ∧ h.Sub h') := by
  refine CallW.body mix f22_cf Try.func22 (by rw [Try.ntmps22]; simp) ?_
  rw [f22_entry, f22_n_wp]
  simp only [ocs_len, rcs_len, rcs1, rcs2, ocs3, ocs4, els_sl, right_sl, isSl_sl, num_int, isInt_i64]
  refine ⟨trivial, trivial, ⟨by omega, trivial⟩, ⟨by omega, trivial⟩, ?_⟩
  refine on_any _ _ _ hl fun h2 hs => ⟨⟨trivial, rfl⟩, ?_⟩
  unfold whyO
  simp only [flag_bool]
  cases onT r.ticks o.price with
  | false => simp [f22_end1, hs]
  | true =>
    simp only [Bool.not_true, brW_false]
    refine ⟨⟨by omega, trivial⟩, ⟨by omega, trivial⟩, ?_⟩
    refine lot_any _ _ ⟨⟨trivial, rfl⟩, ?_⟩
    simp [f22_end1, hs]
theorem why_any (o : Odr) (r : Rul) (hl : r.ticks.length < 1000000) {h : Heap} {K : V → Heap → Prop} (m : ∀ h', h.Sub h' → K (.int .i64 (whyO o r)) h') : AnyW Try.prog 22 [.agg (ocs o), .agg (rcs r)] h K :=
  AnyW.of (by kernel_rfl) (why_call o r hl h) (fun v h' e => by obtain ⟨rfl, e⟩ := e; exact m h' e)

theorem take_ocs (o : Odr) : List.take 6 (List.drop 0 (ocs o)) = ocs o := rfl
theorem take_rcs (r : Rul) : List.take 9 (List.drop 0 (rcs r)) = rcs r := rfl

theorem why6_call (o : Odr) (r : Rul) (hl : r.ticks.length < 1000000) (h : Heap) : CallW Try.prog 23 [.agg (ocs o), .agg (rcs r)] h (fun v h' => v = .int .i64 (whyO o r) ∧ h.Sub h') := by
  refine CallW.body mix f23_cf Try.func23 (by rw [Try.ntmps23]; simp) ?_
  rw [f23_entry, f23_n_wp]
  simp only [ocs_len, rcs_len, rcs1, rcs2, ocs3, ocs4, els_sl, right_sl, isSl_sl, num_int, isInt_i64, take_rcs]
  refine ⟨trivial, trivial, by omega, ⟨by omega, trivial⟩, ?_⟩
  refine AnyW.of (by kernel_rfl) (ticks_call r hl h) ?_
  rintro v h2 ⟨g, rfl, hs⟩
  refine ⟨⟨trivial, by simp⟩, ⟨⟨by omega, trivial⟩, trivial⟩, ?_⟩
  simp only [els_sl, right_sl]
  refine on6_any _ _ _ (by rw [List.length_take]; omega) ⟨⟨trivial, rfl⟩, ?_⟩
  unfold whyO
  simp only [flag_bool, onT_take]
  cases onT r.ticks o.price with
  | false => simp [f23_end1, hs]
  | true =>
    simp only [Bool.not_true, brW_false]
    refine ⟨⟨by omega, trivial⟩, ⟨by omega, trivial⟩, ?_⟩
    refine lot7_any _ _ ⟨⟨trivial, rfl⟩, ?_⟩
    simp [f23_end1, hs]
theorem why6_any (o : Odr) (r : Rul) (hl : r.ticks.length < 1000000) {h : Heap} {K : V → Heap → Prop} (m : ∀ h', h.Sub h' → K (.int .i64 (whyO o r)) h') : AnyW Try.prog 23 [.agg (ocs o), .agg (rcs r)] h K :=
  AnyW.of (by kernel_rfl) (why6_call o r hl h) (fun v h' e => by obtain ⟨rfl, e⟩ := e; exact m h' e)

theorem goes_any (o : Odr) (r : Rul) (l : Nat) (hl : r.ticks.length < 1000000) {h : Heap} (hh : h l = some (.cells (rcs r))) {K : V → Heap → Prop} (m : ∀ h', h.Sub h' → K (.bool (whyO o r != 0)) h') :
    AnyW Try.prog 45 [.agg (ocs o), .ptr l 0] h K := by
  refine AnyW.of (by kernel_rfl) (K0 := fun v h' => v = .bool (whyO o r != 0) ∧ h.Sub h') (CallW.body mix f45_cf Try.func45 (by rw [Try.ntmps45]; simp) ?_) (fun v h' e => by obtain ⟨rfl, e⟩ := e; exact m h' e)
  rw [f45_entry, f45_n_wp]
  have e : cellsAt h l = rcs r := by simp [cellsAt, hh]
  simp only [e, ocs_len, rcs_len, take_ocs, take_rcs]
  refine ⟨trivial, by omega, by omega, ?_⟩
  refine why_any o r hl fun h' hs => ⟨⟨trivial, rfl⟩, ?_⟩
  simp [f45_end1, hs]

def lightR (r : Rul) : Bool := decide (r.ticks.length ≤ 20) && decide (r.fees.length ≤ 20)
theorem light_call (r : Rul) (h : Heap) : CallW Try.prog 16 [.agg (rcs r)] h (fun v h' => v = .bool (lightR r) ∧ h' = h) := by
  refine CallW.body mix f16_cf Try.func16 (by rw [Try.ntmps16]; simp) ?_
  rw [f16_entry, f16_n_wp]
  unfold lightR
  by_cases c1 : r.ticks.length ≤ 20 <;> by_cases c2 : r.fees.length ≤ 20 <;> simp [f16_end1, c1, c2, show ((r.ticks.length : Int) ≤ 20) ↔ r.ticks.length ≤ 20 from by omega, show ((r.fees.length : Int) ≤ 20) ↔ r.fees.length ≤ 20 from by omega]
theorem light_any (r : Rul) {h : Heap} {K : V → Heap → Prop} (m : K (.bool (lightR r)) h) : AnyW Try.prog 16 [.agg (rcs r)] h K := AnyW.eq (by kernel_rfl) (light_call r h) m

def basic : Rul := ⟨1, [(0, 5)], .full, 10, 0, [(0, 100, 200)], .full, 2, 1, 2, 1⟩
theorem basic_any {h : Heap} {K : V → Heap → Prop} (m : K (.agg (rcs basic)) h) : AnyW Try.prog 44 [] h K := by
  refine AnyW.eq (by kernel_rfl) (v := .agg (rcs basic)) (CallW.body mix f44_cf Try.func44 (by rw [Try.ntmps44]; simp) ?_) m
  rw [f44_entry, f44_n_wp]
  simp [f44_end1, basic, rcs, tks, frs]

theorem rows_snoc (t : List Odr) (x : Odr) : rows (t ++ [x]) = rows t ++ [ocs x] := by simp [rows]
theorem go_next (l : List Odr) {i : Nat} (h : i < l.length) : l.take (i + 1) = l.take i ++ [go l i] := by rw [List.take_add_one, go_lt l h]; simp [h]
theorem wr_ocs (a b c d e f : V) (o : Odr) : wrCells [a, b, c, d, e, f] 0 (ocs o) = ocs o := rfl

theorem plain_call (os : List Odr) (g0 : G) (hn : os.length ≤ 1000000) (h : Heap) : CallW Try.prog 20 [.sl 6 (rows os) g0] h (fun v h' => ∃ g, v = .sl 6 (rows os) g ∧ h.Sub h') := by
  refine CallW.body mix f20_cf Try.func20 (by rw [Try.ntmps20]; simp) ?_
  rw [f20_entry, f20_n_wp, f20_n11_eq, wpA_seq, f20_n110_wp, f20_n11010_eq]
  refine wpA_loopH (σ := Nat × G) (fun s => f20_n110100_F (rows (os.take s.1)) s.2 (rows os) g0 os.length s.1) (fun s => os.length - s.1)
    (fun s h' => s.1 ≤ os.length ∧ Can s.2 6 s.1 h' ∧ ∀ l o, h l = some o → h' l = some o ∧ s.2 ≠ .own l) (0, .full) (by simp [f20_n110100_F, rows]) ⟨by simp, .full, fun l o e => ⟨e, by simp⟩⟩ ?_
  rintro ⟨i, g⟩ h1 ⟨g1, g3, g4⟩
  simp only at g1 g3 g4
  simp only [f20_n110100_F]
  rw [f20_n110100_wp]
  by_cases d1 : i < os.length
  · simp only [rows_len, show decide ((i : Int) < (os.length : Int)) = true from decide_eq_true (by omega), brW_true, Int.toNat_natCast, rows_get os d1, take_ocs, ocs_len, wr_ocs, List.length_take, Nat.min_eq_left g1, wadd1 i (by omega)]
    refine ⟨⟨by omega, by omega⟩, by omega, trivial, trivial, by omega, by omega, ⟨trivial, trivial⟩, by unfold mostLen; omega, ?_⟩
    refine appG_one (m := 0) g3 fun s h2 q1 q2 => ?_
    refine ⟨(i + 1, .own s), by rw [go_next _ d1, rows_snoc], ⟨by simp only; omega, .inr ⟨s, rfl, q1⟩, fun l o e => ?_⟩, by simp only; omega⟩
    obtain ⟨e1, e2⟩ := g4 l o e
    obtain ⟨e3, e4⟩ := q2 l o e1 e2
    exact ⟨e3, fun c => by injection c with c; exact e4 c.symm⟩
  · simp only [show decide ((i : Int) < (os.length : Int)) = false from decide_eq_false (by omega), brW_false, seqK_exit, blockK_exit, if_true, seqK_normal]
    rw [f20_n111_wp, f20_end1]
    exact ⟨g, by rw [List.take_of_length_le (by omega)], fun l o e => (g4 l o e).1⟩
theorem plain_any (os : List Odr) (g0 : G) (hn : os.length ≤ 1000000) {h : Heap} {K : V → Heap → Prop} (m : ∀ g h', h.Sub h' → K (.sl 6 (rows os) g) h') : AnyW Try.prog 20 [.sl 6 (rows os) g0] h K :=
  AnyW.of (by kernel_rfl) (plain_call os g0 hn h) (fun v h' e => by obtain ⟨g, rfl, e⟩ := e; exact m g h' e)
end

section
set_option linter.all false
set_option maxRecDepth 100000
open Go Go.Proofs Jb
def f18_cf : Cfg := ⟨[3, 22, 26], [(0, [1, 1000004, 1000005]), (1, [3, 9]), (2, [0]), (4, [13, 14, 15]), (5, [16, 17]), (6, [8, 18, 19, 20, 21, 22]), (7, [8, 18, 23, 24, 25, 26]), (8, [27]), (9, [6, 10, 11, 12, 13, 28, 29]), (10, [30, 31])]⟩
noncomputable def f18_b : Code := bodyOf Try.f18
noncomputable def f18_n : Code :=  (codeAt [] f18_b)
noncomputable def f18_n11 : Code := hide (codeAt [1, 1] f18_b)
noncomputable def f18_n110 : Code := hide (codeAt [1, 1, 0] f18_b)
noncomputable def f18_n11010 : Code := hide (codeAt [1, 1, 0, 1, 0] f18_b)
noncomputable def f18_n110100 : Code := hide (codeAt [1, 1, 0, 1, 0, 0] f18_b)
noncomputable def f18_n11010011 : Code := hide (codeAt [1, 1, 0, 1, 0, 0, 1, 1] f18_b)
noncomputable def f18_n111 : Code := hide (codeAt [1, 1, 1] f18_b)
noncomputable def f18_n110100110 : Code := hide (codeAt [1, 1, 0, 1, 0, 0, 1, 1, 0] f18_b)
noncomputable def f18_n110100111 : Code := hide (codeAt [1, 1, 0, 1, 0, 0, 1, 1, 1] f18_b)
theorem f18_entry (l : List (List V)) (l_g : G) (r : List V) (h : Heap) (K : V → Heap → Prop) : bodyW Try.prog f18_cf Try.f18 [(V.sl 6 l l_g), (V.agg r)] h K = wpA Try.prog f18_cf f18_n ⟨[(V.sl 6 l l_g), (V.agg r), V.undef, V.undef, V.undef, V.undef, V.undef, V.undef, V.undef, V.undef, V.undef, V.undef, V.undef, V.undef, V.undef, V.undef, V.undef, V.undef, V.undef, V.undef, V.undef, V.undef, V.undef, V.undef, V.undef, V.undef, V.undef, V.undef, V.undef, V.undef, V.undef, V.undef], []⟩ h (bodyK Try.prog Try.f18 K) := by kernel_rfl
theorem f18_n_plug : f18_n = (plug [1, 1] (codeAt [] f18_b) f18_n11) := by
  simp only [f18_n, f18_n11, hide_eq]
  try kernel_rfl
theorem f18_n_wp (l : List (List V)) (l_g : G) (r : List V) (h : Heap) (Q : Ex → Fr → Heap → Prop) : wpA Try.prog f18_cf f18_n ⟨[(V.sl 6 l l_g), (V.agg r), V.undef, V.undef, V.undef, V.undef, V.undef, V.undef, V.undef, V.undef, V.undef, V.undef, V.undef, V.undef, V.undef, V.undef, V.undef, V.undef, V.undef, V.undef, V.undef, V.undef, V.undef, V.undef, V.undef, V.undef, V.undef, V.undef, V.undef, V.undef, V.undef, V.undef], []⟩ h Q =
 (((List.length r) = 9) ∧ (∀ lz1 : Nat, h lz1 = none → (let hz2 : Heap := (Heap.upd h lz1 (Ob.cells r));
 (wpA Try.prog f18_cf f18_n11 ⟨[(V.sl 6 l l_g), V.undef, V.undef, V.undef, (V.sref 6 0 0 0 0), (V.sref 6 0 0 0 0), (V.fn (Fn.func 45) [] [(V.ptr lz1 0)]), V.undef, V.undef, V.undef, V.undef, V.undef, V.undef, V.undef, V.undef, V.undef, V.undef, V.undef, V.undef, V.undef, V.undef, V.undef, V.undef, V.undef, V.undef, V.undef, V.undef, V.undef, V.undef, V.undef, V.undef, V.undef], []⟩ hz2 Q)))) := wpA_at f18_n_plug (by kernel_rfl)
theorem f18_n11_eq : f18_n11 = Code.seq f18_n110 f18_n111 := by
  simp only [f18_n11, f18_n110, f18_n111, hide_eq]
  kernel_rfl
theorem f18_n110_plug : f18_n110 = (plug [1, 0] (codeAt [1, 1, 0] f18_b) f18_n11010) := by
  simp only [f18_n110, f18_n11010, hide_eq]
  try kernel_rfl
theorem f18_n110_wp (e0 : List (List V)) (g1 : G) (l2 : Nat) (o3 : Nat) (n4 : Nat) (c5 : Nat) (l6 : Nat) (o7 : Nat) (n8 : Nat) (c9 : Nat) (l10 : Nat) (h : Heap) (Q : Ex → Fr → Heap → Prop) : wpA Try.prog f18_cf f18_n110 ⟨[(V.sl 6 e0 g1), V.undef, V.undef, V.undef, (V.sref 6 l2 o3 n4 c5), (V.sref 6 l6 o7 n8 c9), (V.fn (Fn.func 45) [] [(V.ptr l10 0)]), V.undef, V.undef, V.undef, V.undef, V.undef, V.undef, V.undef, V.undef, V.undef, V.undef, V.undef, V.undef, V.undef, V.undef, V.undef, V.undef, V.undef, V.undef, V.undef, V.undef, V.undef, V.undef, V.undef, V.undef, V.undef], []⟩ h Q =
 (wpA Try.prog f18_cf f18_n11010 ⟨[V.undef, V.undef, V.undef, V.undef, (V.sref 6 l2 o3 n4 c5), (V.sref 6 l6 o7 n8 c9), (V.fn (Fn.func 45) [] [(V.ptr l10 0)]), V.undef, V.undef, V.undef, (V.sl 6 e0 g1), (V.int Go.IntKind.i64 ((List.length e0) : Int)), (V.int Go.IntKind.i64 (0 : Int)), V.undef, V.undef, V.undef, V.undef, V.undef, V.undef, V.undef, V.undef, V.undef, V.undef, V.undef, V.undef, V.undef, V.undef, V.undef, V.undef, V.undef, V.undef, V.undef], []⟩ h (blockK 0 Q)) := wpA_at f18_n110_plug (by kernel_rfl)
theorem f18_n11010_eq : f18_n11010 = Code.loop f18_n110100 := by
  simp only [f18_n11010, f18_n110100, hide_eq]
  kernel_rfl
def f18_n110100_F (l0 : Nat) (o1 : Nat) (n2 : Nat) (c3 : Nat) (l4 : Nat) (o5 : Nat) (n6 : Nat) (c7 : Nat) (l8 : Nat) (e9 : List (List V)) (g10 : G) (x11 : Int) (x12 : Int) : Fr := ⟨[V.undef, V.undef, V.undef, V.undef, (V.sref 6 l0 o1 n2 c3), (V.sref 6 l4 o5 n6 c7), (V.fn (Fn.func 45) [] [(V.ptr l8 0)]), V.undef, V.undef, V.undef, (V.sl 6 e9 g10), (V.int Go.IntKind.i64 x11), (V.int Go.IntKind.i64 x12), V.undef, V.undef, V.undef, V.undef, V.undef, V.undef, V.undef, V.undef, V.undef, V.undef, V.undef, V.undef, V.undef, V.undef, V.undef, V.undef, V.undef, V.undef, V.undef], []⟩
theorem f18_n110100_plug : f18_n110100 = (plug [1, 1] (codeAt [1, 1, 0, 1, 0, 0] f18_b) f18_n11010011) := by
  simp only [f18_n110100, f18_n11010011, hide_eq]
  try kernel_rfl
theorem f18_n110100_wp (l0 : Nat) (o1 : Nat) (n2 : Nat) (c3 : Nat) (l4 : Nat) (o5 : Nat) (n6 : Nat) (c7 : Nat) (l8 : Nat) (e9 : List (List V)) (g10 : G) (x11 : Int) (x12 : Int) (h : Heap) (Q : Ex → Fr → Heap → Prop) : wpA Try.prog f18_cf f18_n110100 ⟨[V.undef, V.undef, V.undef, V.undef, (V.sref 6 l0 o1 n2 c3), (V.sref 6 l4 o5 n6 c7), (V.fn (Fn.func 45) [] [(V.ptr l8 0)]), V.undef, V.undef, V.undef, (V.sl 6 e9 g10), (V.int Go.IntKind.i64 x11), (V.int Go.IntKind.i64 x12), V.undef, V.undef, V.undef, V.undef, V.undef, V.undef, V.undef, V.undef, V.undef, V.undef, V.undef, V.undef, V.undef, V.undef, V.undef, V.undef, V.undef, V.undef, V.undef], []⟩ h Q =
 (brW (decide (x12 < x11))
 (wpA Try.prog f18_cf f18_n11010011 ⟨[V.undef, V.undef, V.undef, V.undef, (V.sref 6 l0 o1 n2 c3), (V.sref 6 l4 o5 n6 c7), (V.fn (Fn.func 45) [] [(V.ptr l8 0)]), V.undef, V.undef, V.undef, (V.sl 6 e9 g10), (V.int Go.IntKind.i64 x11), (V.int Go.IntKind.i64 x12), (V.bool (decide (x12 < x11))), V.undef, V.undef, V.undef, V.undef, V.undef, V.undef, V.undef, V.undef, V.undef, V.undef, V.undef, V.undef, V.undef, V.undef, V.undef, V.undef, V.undef, V.undef], []⟩ h Q)
 (Q (Ex.exit 0) ⟨[V.undef, V.undef, V.undef, V.undef, (V.sref 6 l0 o1 n2 c3), (V.sref 6 l4 o5 n6 c7), (V.fn (Fn.func 45) [] [(V.ptr l8 0)]), V.undef, V.undef, V.undef, (V.sl 6 e9 g10), (V.int Go.IntKind.i64 x11), (V.int Go.IntKind.i64 x12), (V.bool (decide (x12 < x11))), V.undef, V.undef, V.undef, V.undef, V.undef, V.undef, V.undef, V.undef, V.undef, V.undef, V.undef, V.undef, V.undef, V.undef, V.undef, V.undef, V.undef, V.undef], []⟩ h)) := wpA_at f18_n110100_plug (by kernel_rfl)
theorem f18_n11010011_eq : f18_n11010011 = Code.seq f18_n110100110 f18_n110100111 := by
  simp only [f18_n11010011, f18_n110100110, f18_n110100111, hide_eq]
  kernel_rfl
theorem f18_n111_plug : f18_n111 = (codeAt [1, 1, 1] f18_b) := by
  simp only [f18_n111, hide_eq]
  try kernel_rfl
theorem f18_n111_wp (l0 : Nat) (o1 : Nat) (n2 : Nat) (c3 : Nat) (l4 : Nat) (o5 : Nat) (n6 : Nat) (c7 : Nat) (l8 : Nat) (e9 : List (List V)) (g10 : G) (x11 : Int) (x12 : Int) (b13 : Bool) (h : Heap) (Q : Ex → Fr → Heap → Prop) : wpA Try.prog f18_cf f18_n111 ⟨[V.undef, V.undef, V.undef, V.undef, (V.sref 6 l0 o1 n2 c3), (V.sref 6 l4 o5 n6 c7), (V.fn (Fn.func 45) [] [(V.ptr l8 0)]), V.undef, V.undef, V.undef, (V.sl 6 e9 g10), (V.int Go.IntKind.i64 x11), (V.int Go.IntKind.i64 x12), (V.bool b13), V.undef, V.undef, V.undef, V.undef, V.undef, V.undef, V.undef, V.undef, V.undef, V.undef, V.undef, V.undef, V.undef, V.undef, V.undef, V.undef, V.undef, V.undef], []⟩ h Q =
 (AnyW Try.prog 46 [(V.sref 6 l4 o5 n6 c7), (V.fn (Fn.func 47) [] [])] h (fun (rz3 : V) (hz4 : Heap) =>
 (V.isTup 0 rz3 = true ∧ (Q Ex.ret ⟨[V.undef, V.undef, V.undef, V.undef, (V.sref 6 l0 o1 n2 c3), (V.sref 6 l4 o5 n6 c7), V.undef, V.undef, V.undef, V.undef, V.undef, V.undef, V.undef, V.undef, V.undef, V.undef, V.undef, V.undef, V.undef, V.undef, V.undef, V.undef, V.undef, V.undef, V.undef, V.undef, V.undef, V.undef, V.undef, V.undef, V.undef, V.undef], []⟩ hz4)))) := wpA_at f18_n111_plug (by kernel_rfl)
theorem f18_n110100110_plug : f18_n110100110 = (codeAt [1, 1, 0, 1, 0, 0, 1, 1, 0] f18_b) := by
  simp only [f18_n110100110, hide_eq]
  try kernel_rfl
theorem f18_n110100110_wp (l0 : Nat) (o1 : Nat) (n2 : Nat) (c3 : Nat) (l4 : Nat) (o5 : Nat) (n6 : Nat) (c7 : Nat) (l8 : Nat) (e9 : List (List V)) (g10 : G) (x11 : Int) (x12 : Int) (b13 : Bool) (h : Heap) (Q : Ex → Fr → Heap → Prop) : wpA Try.prog f18_cf f18_n110100110 ⟨[V.undef, V.undef, V.undef, V.undef, (V.sref 6 l0 o1 n2 c3), (V.sref 6 l4 o5 n6 c7), (V.fn (Fn.func 45) [] [(V.ptr l8 0)]), V.undef, V.undef, V.undef, (V.sl 6 e9 g10), (V.int Go.IntKind.i64 x11), (V.int Go.IntKind.i64 x12), (V.bool b13), V.undef, V.undef, V.undef, V.undef, V.undef, V.undef, V.undef, V.undef, V.undef, V.undef, V.undef, V.undef, V.undef, V.undef, V.undef, V.undef, V.undef, V.undef], []⟩ h Q =
 ((0 ≤ x12 ∧ x12 < (List.length e9)) ∧ ((0 + 6 ≤ (List.length (ge e9 (Int.toNat x12)))) ∧ (let cz5 : List V := (List.take 6 (List.drop 0 (ge e9 (Int.toNat x12))));
 (True ∧ (((List.length cz5) = 6) ∧ 0 + 6 ≤ 6 ∧ (let cz6 : List V := (wrCells [(V.int Go.IntKind.u64 (0 : Int)), (V.int Go.IntKind.i64 (0 : Int)), (V.int Go.IntKind.i64 (0 : Int)), (V.int Go.IntKind.i64 (0 : Int)), (V.int Go.IntKind.i64 (0 : Int)), (V.int Go.IntKind.u64 (0 : Int))] 0 cz5);
 ((0 + 6 ≤ (List.length cz6)) ∧ (let cz7 : List V := (List.take 6 (List.drop 0 cz6));
 (AnyW Try.prog 45 [(V.agg cz7), (V.ptr l8 0)] h (fun (rz8 : V) (hz9 : Heap) =>
 ((True ∧ V.isBool rz8 = true) ∧ (brW (V.flag rz8)
 ((0 + 6 ≤ (List.length cz6)) ∧ (let cz10 : List V := (List.take 6 (List.drop 0 cz6));
 ((((List.length cz10) = 6) ∧ True) ∧ ((n6 + 1) ≤ mostLen ∧ 0 < 1 ∧ o5 + c7 * 6 ≤ (List.length (cellsAt hz9 l4)) ∧ ∀ (lz11 oz12 cz13 : Nat) (hz14 : Heap), AppTo 6 hz9 l4 o5 n6 c7 [cz10] lz11 oz12 cz13 hz14 →
 (Q Ex.normal ⟨[V.undef, V.undef, V.undef, V.undef, (V.sref 6 l0 o1 n2 c3), (V.sref 6 lz11 oz12 (n6 + 1) cz13), (V.fn (Fn.func 45) [] [(V.ptr l8 0)]), V.undef, V.undef, V.undef, (V.sl 6 e9 g10), (V.int Go.IntKind.i64 x11), (V.int Go.IntKind.i64 x12), V.undef, V.undef, V.undef, V.undef, V.undef, V.undef, V.undef, V.undef, V.undef, V.undef, V.undef, V.undef, V.undef, V.undef, V.undef, V.undef, V.undef, V.undef, V.undef], []⟩ hz14)))))
 ((0 + 6 ≤ (List.length cz6)) ∧ (let cz15 : List V := (List.take 6 (List.drop 0 cz6));
 ((((List.length cz15) = 6) ∧ True) ∧ ((n2 + 1) ≤ mostLen ∧ 0 < 1 ∧ o1 + c3 * 6 ≤ (List.length (cellsAt hz9 l0)) ∧ ∀ (lz16 oz17 cz18 : Nat) (hz19 : Heap), AppTo 6 hz9 l0 o1 n2 c3 [cz15] lz16 oz17 cz18 hz19 →
 (Q Ex.normal ⟨[V.undef, V.undef, V.undef, V.undef, (V.sref 6 lz16 oz17 (n2 + 1) cz18), (V.sref 6 l4 o5 n6 c7), (V.fn (Fn.func 45) [] [(V.ptr l8 0)]), V.undef, V.undef, V.undef, (V.sl 6 e9 g10), (V.int Go.IntKind.i64 x11), (V.int Go.IntKind.i64 x12), V.undef, V.undef, V.undef, V.undef, V.undef, V.undef, V.undef, V.undef, V.undef, V.undef, V.undef, V.undef, V.undef, V.undef, V.undef, V.undef, V.undef, V.undef, V.undef], []⟩ hz19))))))))))))))))) := wpA_at f18_n110100110_plug (by kernel_rfl)
theorem f18_n110100111_plug : f18_n110100111 = (codeAt [1, 1, 0, 1, 0, 0, 1, 1, 1] f18_b) := by
  simp only [f18_n110100111, hide_eq]
  try kernel_rfl
theorem f18_n110100111_wp (l0 : Nat) (o1 : Nat) (n2 : Nat) (c3 : Nat) (l4 : Nat) (o5 : Nat) (n6 : Nat) (c7 : Nat) (l8 : Nat) (e9 : List (List V)) (g10 : G) (x11 : Int) (x12 : Int) (h : Heap) (Q : Ex → Fr → Heap → Prop) : wpA Try.prog f18_cf f18_n110100111 ⟨[V.undef, V.undef, V.undef, V.undef, (V.sref 6 l0 o1 n2 c3), (V.sref 6 l4 o5 n6 c7), (V.fn (Fn.func 45) [] [(V.ptr l8 0)]), V.undef, V.undef, V.undef, (V.sl 6 e9 g10), (V.int Go.IntKind.i64 x11), (V.int Go.IntKind.i64 x12), V.undef, V.undef, V.undef, V.undef, V.undef, V.undef, V.undef, V.undef, V.undef, V.undef, V.undef, V.undef, V.undef, V.undef, V.undef, V.undef, V.undef, V.undef, V.undef], []⟩ h Q =
 (let iz20 : Int := (Go.IntKind.wrap Go.IntKind.i64 (x12 + (1 : Int)));
 (Q Ex.normal ⟨[V.undef, V.undef, V.undef, V.undef, (V.sref 6 l0 o1 n2 c3), (V.sref 6 l4 o5 n6 c7), (V.fn (Fn.func 45) [] [(V.ptr l8 0)]), V.undef, V.undef, V.undef, (V.sl 6 e9 g10), (V.int Go.IntKind.i64 x11), (V.int Go.IntKind.i64 iz20), V.undef, V.undef, V.undef, V.undef, V.undef, V.undef, V.undef, V.undef, V.undef, V.undef, V.undef, V.undef, V.undef, V.undef, V.undef, V.undef, V.undef, V.undef, V.undef], []⟩ h)) := wpA_at f18_n110100111_plug (by kernel_rfl)
theorem f18_end1 (l0 : Nat) (o1 : Nat) (n2 : Nat) (c3 : Nat) (l4 : Nat) (o5 : Nat) (n6 : Nat) (c7 : Nat) (h : Heap) (K : V → Heap → Prop) : bodyK Try.prog Try.f18 K Ex.ret ⟨[V.undef, V.undef, V.undef, V.undef, (V.sref 6 l0 o1 n2 c3), (V.sref 6 l4 o5 n6 c7), V.undef, V.undef, V.undef, V.undef, V.undef, V.undef, V.undef, V.undef, V.undef, V.undef, V.undef, V.undef, V.undef, V.undef, V.undef, V.undef, V.undef, V.undef, V.undef, V.undef, V.undef, V.undef, V.undef, V.undef, V.undef, V.undef], []⟩ h = (K (V.tup [(V.sref 6 l0 o1 n2 c3), (V.sref 6 l4 o5 n6 c7)]) h) := by kernel_rfl
end

section
open Go Go.Proofs Jb
set_option linter.unusedSimpArgs false

/-- Orders in a block that may be written to. -/
def MS (rs : List Odr) (l c : Nat) (h : Heap) : Prop := (rs = [] ∧ c = 0) ∨ (0 < c ∧ ∃ rest, h l = some (.cells (tab rs ++ rest)) ∧ c * 6 ≤ rs.length * 6 + rest.length)

theorem MS.keep {rs : List Odr} {l c : Nat} {h h' : Heap} (m : MS rs l c h) (k : ∀ o, 0 < c → h l = some o → h' l = some o) : MS rs l c h' := by
  rcases m with m | ⟨c0, rest, m, q⟩
  · exact .inl m
  · exact .inr ⟨c0, rest, k _ c0 m, q⟩
theorem MS.room {rs : List Odr} {l c : Nat} {h : Heap} (m : MS rs l c h) : 0 + c * 6 ≤ (cellsAt h l).length := by
  rcases m with ⟨_, rfl⟩ | ⟨_, rest, m, q⟩
  · simp
  · simp [cellsAt, m]; omega

theorem MS.app {rs : List Odr} {l c : Nat} {h : Heap} (m : MS rs l c h) (o : Odr) {l' o' c' : Nat} {h' : Heap} (a : AppTo 6 h l 0 rs.length c [ocs o] l' o' c' h') :
    o' = 0 ∧ 0 < c' ∧ MS (rs ++ [o]) l' c' h' ∧ (∀ x ob, h x = some ob → (x ≠ l ∨ c = 0) → h' x = some ob ∧ x ≠ l') ∧ ((0 < c ∧ l' = l) ∨ h l' = none) := by
  rcases a with ⟨a1, rfl, rfl, rfl, rfl⟩ | ⟨a1, a2, a3, rfl, rest, a5, rfl⟩
  · simp only [List.length_singleton] at a1
    rcases m with ⟨_, rfl⟩ | ⟨c0, rest, m, q⟩
    · omega
    · refine ⟨rfl, c0, .inr ⟨c0, rest.drop 6, ?_, by simp; omega⟩, fun x ob hx hne => ?_, .inl ⟨c0, rfl⟩⟩
      · have e : cellsAt h l' = tab rs ++ rest := by simp [cellsAt, m]
        rw [e, upd_same]
        simp only [wrCells, Nat.zero_add, List.flatten_cons, List.flatten_nil, List.append_nil, ocs_len]
        rw [tab_take _ _ _ (Nat.le_refl _), List.take_length, tab_append, show rs.length * 6 + 6 = (tab rs).length + 6 from by simp, List.drop_append]
        simp
      · have : x ≠ l' := by omega
        exact ⟨by rw [upd_ne _ _ this]; exact hx, this⟩
  · simp only [List.length_singleton] at a1 a2 a5
    have ne : ∀ x ob, h x = some ob → x ≠ l' := fun x ob hx => by rintro rfl; rw [a3] at hx; cases hx
    refine ⟨rfl, by omega, .inr ⟨by omega, rest, ?_, by simp [a5]; omega⟩, fun x ob hx _ => ⟨by rw [upd_ne _ _ (ne x ob hx)]; exact hx, ne x ob hx⟩, .inr a3⟩
    rw [upd_same]
    have e : List.take (rs.length * 6) (List.drop 0 (cellsAt h l)) = tab rs := by
      rcases m with ⟨rfl, _⟩ | ⟨_, rest, m, q⟩
      · simp
      · have e : cellsAt h l = tab rs ++ rest := by simp [cellsAt, m]
        rw [e, List.drop_zero, tab_take _ _ _ (Nat.le_refl _), List.take_length]
    rw [e]
    simp [tab_append]

/-- Sorted, and who are alike in their order. -/
def Sorted (rs rs' : List Odr) : Prop := rs'.Pairwise Le2 ∧ Stb rs rs'

theorem plan_call (os : List Odr) (g0 : G) (r : Rul) (hl : r.ticks.length < 1000000) (hn : os.length ≤ 1000000) (h : Heap) : CallW Try.prog 18 [.sl 6 (rows os) g0, .agg (rcs r)] h
    (fun v h' => ∃ gone l c l' c', v = .tup [.sref 6 l 0 (os.filter (fun o => whyO o r == 0)).length c, .sref 6 l' 0 gone.length c'] ∧ MS (os.filter (fun o => whyO o r == 0)) l c h' ∧ MS gone l' c' h' ∧
      Sorted (os.filter (fun o => whyO o r != 0)) gone ∧ h.Sub h') := by
  refine CallW.body mix f18_cf Try.func18 (by rw [Try.ntmps18]; simp) ?_
  rw [f18_entry, f18_n_wp]
  refine ⟨rfl, fun lr hr => ?_⟩
  have hs0 : h.Sub (h.upd lr (.cells (rcs r))) := Heap.sub_new hr (Heap.sub_rfl h)
  simp only
  rw [f18_n11_eq, wpA_seq, f18_n110_wp, f18_n11010_eq]
  refine wpA_loopH (σ := Nat × Nat × Nat × Nat × Nat) (fun s => f18_n110100_F s.2.1 0 ((os.take s.1).filter (fun o => whyO o r == 0)).length s.2.2.1 s.2.2.2.1 0 ((os.take s.1).filter (fun o => whyO o r != 0)).length s.2.2.2.2 lr (rows os) g0 os.length s.1)
    (fun s => os.length - s.1)
    (fun s h' => s.1 ≤ os.length ∧ h' lr = some (.cells (rcs r)) ∧ MS ((os.take s.1).filter (fun o => whyO o r == 0)) s.2.1 s.2.2.1 h' ∧ MS ((os.take s.1).filter (fun o => whyO o r != 0)) s.2.2.2.1 s.2.2.2.2 h' ∧
      (0 < s.2.2.1 → s.2.1 ≠ lr ∧ h s.2.1 = none) ∧ (0 < s.2.2.2.2 → s.2.2.2.1 ≠ lr ∧ h s.2.2.2.1 = none) ∧ (0 < s.2.2.1 → 0 < s.2.2.2.2 → s.2.1 ≠ s.2.2.2.1) ∧ h.Sub h') (0, 0, 0, 0, 0)
    (by simp [f18_n110100_F]) ⟨by simp, by simp, .inl ⟨by simp, rfl⟩, .inl ⟨by simp, rfl⟩, by simp, by simp, by simp, hs0⟩ ?_
  rintro ⟨i, l, c, l', c'⟩ h1 ⟨g1, g2, g3, g4, g5, g6, g7, g8⟩
  simp only at g1 g2 g3 g4 g5 g6 g7 g8
  simp only [f18_n110100_F]
  rw [f18_n110100_wp]
  by_cases d1 : i < os.length
  · rw [show decide ((i : Int) < (os.length : Int)) = true from decide_eq_true (by omega), brW_true, f18_n11010011_eq, wpA_seq, f18_n110100110_wp]
    simp only [rows_len, Int.toNat_natCast, rows_get os d1, take_ocs, ocs_len, wr_ocs]
    refine ⟨⟨by omega, by omega⟩, by omega, trivial, trivial, by omega, by omega, ?_⟩
    refine goes_any (go os i) r lr hl g2 fun h2 hs => ⟨⟨trivial, rfl⟩, ?_⟩
    have k3 : MS _ l c h2 := g3.keep (fun o _ e => hs _ _ e)
    have k4 : MS _ l' c' h2 := g4.keep (fun o _ e => hs _ _ e)
    have nl : ((os.take i).filter (fun o => whyO o r == 0)).length ≤ i := by have := List.length_filter_le (fun o => whyO o r == 0) (os.take i); rw [List.length_take] at this; omega
    have nl' : ((os.take i).filter (fun o => whyO o r != 0)).length ≤ i := by have := List.length_filter_le (fun o => whyO o r != 0) (os.take i); rw [List.length_take] at this; omega
    simp only [flag_bool]
    by_cases cw : whyO (go os i) r = 0
    · rw [show (whyO (go os i) r != 0) = false from by rw [cw]; rfl, brW_false]
      refine ⟨by omega, ⟨trivial, trivial⟩, by unfold mostLen; omega, by omega, k3.room, ?_⟩
      intro m om cm h3 ha
      obtain ⟨rfl, a1, a2, a3, a4⟩ := k3.app _ ha
      rw [seqK_normal, f18_n110100111_wp]
      simp only [wadd1 i (by omega)]
      have f1 : (os.take (i + 1)).filter (fun o => whyO o r == 0) = (os.take i).filter (fun o => whyO o r == 0) ++ [go os i] := by rw [go_next _ d1, List.filter_append]; simp [cw]
      have f2 : (os.take (i + 1)).filter (fun o => whyO o r != 0) = (os.take i).filter (fun o => whyO o r != 0) := by rw [go_next _ d1, List.filter_append]; simp [cw]
      have ne1 : lr ≠ l ∨ c = 0 := by
        rcases Nat.eq_zero_or_pos c with e | e
        · exact .inr e
        · exact .inl (Ne.symm (g5 e).1)
      have ne2 : 0 < c' → l' ≠ l ∨ c = 0 := fun q => by
        rcases Nat.eq_zero_or_pos c with e | e
        · exact .inr e
        · exact .inl (Ne.symm (g7 e q))
      have ne3 : ∀ x ob, h x = some ob → x ≠ l ∨ c = 0 := fun x ob e => by
        rcases Nat.eq_zero_or_pos c with e' | e'
        · exact .inr e'
        · exact .inl (by rintro rfl; rw [(g5 e').2] at e; cases e)
      have ne4 : m ≠ lr ∧ h m = none := by
        rcases a4 with ⟨e, rfl⟩ | e
        · exact g5 e
        · refine ⟨(by rintro rfl; rw [hs _ _ g2] at e; cases e), ?_⟩
          cases hx : h m with
          | none => rfl
          | some ob => rw [hs _ _ (g8 _ _ hx)] at e; cases e
      have ne5 : 0 < c' → m ≠ l' := fun q => by
        rcases a4 with ⟨e, rfl⟩ | e
        · exact g7 e q
        · rcases k4 with ⟨_, e4⟩ | ⟨_, rest, e4, _⟩
          · omega
          · rintro rfl; rw [e4] at e; cases e
      exact ⟨(i + 1, m, cm, l', c'), by simp only [f1, f2, List.length_append, List.length_singleton], ⟨d1, (a3 lr _ (hs _ _ g2) ne1).1, by simp only [f1]; exact a2, by simp only [f2]; exact k4.keep fun o q e => (a3 _ _ e (ne2 q)).1, fun _ => ne4, g6, fun _ q => ne5 q,
        fun x ob e => (a3 x ob (hs _ _ (g8 _ _ e)) (ne3 x ob e)).1⟩, by simp only; omega⟩
    · rw [show (whyO (go os i) r != 0) = true from by rw [bne_iff_ne]; exact cw, brW_true]
      refine ⟨by omega, ⟨trivial, trivial⟩, by unfold mostLen; omega, by omega, k4.room, ?_⟩
      intro m om cm h3 ha
      obtain ⟨rfl, a1, a2, a3, a4⟩ := k4.app _ ha
      rw [seqK_normal, f18_n110100111_wp]
      simp only [wadd1 i (by omega)]
      have f1 : (os.take (i + 1)).filter (fun o => whyO o r != 0) = (os.take i).filter (fun o => whyO o r != 0) ++ [go os i] := by rw [go_next _ d1, List.filter_append]; simp [cw]
      have f2 : (os.take (i + 1)).filter (fun o => whyO o r == 0) = (os.take i).filter (fun o => whyO o r == 0) := by rw [go_next _ d1, List.filter_append]; simp [cw]
      have ne1 : lr ≠ l' ∨ c' = 0 := by
        rcases Nat.eq_zero_or_pos c' with e | e
        · exact .inr e
        · exact .inl (Ne.symm (g6 e).1)
      have ne2 : 0 < c → l ≠ l' ∨ c' = 0 := fun q => by
        rcases Nat.eq_zero_or_pos c' with e | e
        · exact .inr e
        · exact .inl (g7 q e)
      have ne3 : ∀ x ob, h x = some ob → x ≠ l' ∨ c' = 0 := fun x ob e => by
        rcases Nat.eq_zero_or_pos c' with e' | e'
        · exact .inr e'
        · exact .inl (by rintro rfl; rw [(g6 e').2] at e; cases e)
      have ne4 : m ≠ lr ∧ h m = none := by
        rcases a4 with ⟨e, rfl⟩ | e
        · exact g6 e
        · refine ⟨(by rintro rfl; rw [hs _ _ g2] at e; cases e), ?_⟩
          cases hx : h m with
          | none => rfl
          | some ob => rw [hs _ _ (g8 _ _ hx)] at e; cases e
      have ne5 : 0 < c → l ≠ m := fun q => by
        rcases a4 with ⟨e, rfl⟩ | e
        · exact g7 q e
        · rcases k3 with ⟨_, e4⟩ | ⟨_, rest, e4, _⟩
          · omega
          · rintro rfl; rw [e4] at e; cases e
      exact ⟨(i + 1, l, c, m, cm), by simp only [f1, f2, List.length_append, List.length_singleton], ⟨d1, (a3 lr _ (hs _ _ g2) ne1).1, by simp only [f2]; exact k3.keep fun o q e => (a3 _ _ e (ne2 q)).1, by simp only [f1]; exact a2, g5, fun _ => ne4, fun q _ => ne5 q,
        fun x ob e => (a3 x ob (hs _ _ (g8 _ _ e)) (ne3 x ob e)).1⟩, by simp only; omega⟩
  · have hi : i = os.length := by omega
    subst hi
    rw [show decide ((os.length : Int) < (os.length : Int)) = false from decide_eq_false (by omega), brW_false]
    simp only [seqK_exit, blockK_exit, if_true, seqK_normal, List.take_length] at g3 g4 ⊢
    rw [f18_n111_wp]
    rcases g4 with ⟨e4, rfl⟩ | ⟨c0, rest, e4, q4⟩
    · rw [e4]
      refine sort_zero l' 0 0 h1 ⟨rfl, ?_⟩
      rw [f18_end1]
      exact ⟨[], l, c, l', 0, rfl, g3, .inl ⟨rfl, rfl⟩, ⟨List.Pairwise.nil, fun _ => rfl⟩, g8⟩
    · generalize hg : os.filter (fun o => whyO o r != 0) = gs at *
      have hgl : gs.length ≤ os.length := by rw [← hg]; exact List.length_filter_le _ _
      rcases Nat.eq_zero_or_pos gs.length with z | z
      · have : gs = [] := List.length_eq_zero_iff.1 z
        subst this
        refine sort_zero l' 0 c' h1 ⟨rfl, ?_⟩
        rw [f18_end1]
        exact ⟨[], l, c, l', c', rfl, g3, .inr ⟨c0, rest, e4, q4⟩, ⟨List.Pairwise.nil, fun _ => rfl⟩, g8⟩
      · have hT : h1 = T l' gs rest h1 := by
          funext x
          by_cases e : x = l'
          · subst e; rw [e4]; simp [T]
          · simp [T, upd_ne _ _ e]
        rw [hT]
        refine sort_any l' c' gs rest h1 (by omega) z fun ss ms so => ⟨rfl, ?_⟩
        rw [f18_end1]
        have hss : ss.length = gs.length := ms.len
        refine ⟨ss, l, c, l', c', by rw [hss], g3.keep fun o q e => ?_, .inr ⟨c0, rest, by simp [T], by omega⟩, ⟨Srt.pairwise (by rw [hss]; exact so), ms.stb⟩, fun x ob e => ?_⟩
        · rw [T, upd_ne _ _ (g7 q c0)]; exact e
        · have : x ≠ l' := by rintro rfl; rw [(g6 c0).2] at e; cases e
          rw [T, upd_ne _ _ this]; exact g8 _ _ e
end

section
set_option linter.all false
set_option maxRecDepth 100000
open Go Go.Proofs Jb
def f19_cf : Cfg := ⟨[], [(0, [1, 4, 5]), (3, [11, 12, 13]), (4, [15, 16]), (5, [14, 17, 18, 19, 20, 21, 22]), (6, [23, 24, 25, 26, 27, 28, 29, 30]), (7, [23, 31, 32]), (8, [33, 34, 35, 36, 37, 38, 39, 40, 41, 42, 43, 44, 45, 46, 47, 48, 49, 50, 51, 52, 53, 54, 55, 56, 57, 58, 59, 60, 61, 62, 63, 64, 65, 66, 67, 68, 69, 70, 71, 72, 73, 74, 75]), (9, [76, 77, 78]), (10, [76]), (11, [79, 80, 81, 82, 83]), (12, [84, 85, 86, 87, 88, 89, 90]), (13, [9, 10, 91, 92, 93, 94, 95]), (14, [0, 3, 6, 7, 8, 14, 96, 97])]⟩
noncomputable def f19_b : Code := bodyOf Try.f19
noncomputable def f19_n : Code :=  (codeAt [] f19_b)
noncomputable def f19_n11 : Code := hide (codeAt [1, 1] f19_b)
noncomputable def f19_n110 : Code := hide (codeAt [1, 1, 0] f19_b)
noncomputable def f19_n11010 : Code := hide (codeAt [1, 1, 0, 1, 0] f19_b)
noncomputable def f19_n110100 : Code := hide (codeAt [1, 1, 0, 1, 0, 0] f19_b)
noncomputable def f19_n1101001 : Code := hide (codeAt [1, 1, 0, 1, 0, 0, 1] f19_b)
noncomputable def f19_n111 : Code := hide (codeAt [1, 1, 1] f19_b)
noncomputable def f19_n11010010 : Code := hide (codeAt [1, 1, 0, 1, 0, 0, 1, 0] f19_b)
noncomputable def f19_n11010011 : Code := hide (codeAt [1, 1, 0, 1, 0, 0, 1, 1] f19_b)
noncomputable def f19_n11010010011 : Code := hide (codeAt [1, 1, 0, 1, 0, 0, 1, 0, 0, 1, 1] f19_b)
noncomputable def f19_n110100100110 : Code := hide (codeAt [1, 1, 0, 1, 0, 0, 1, 0, 0, 1, 1, 0] f19_b)
noncomputable def f19_n1101001001100 : Code := hide (codeAt [1, 1, 0, 1, 0, 0, 1, 0, 0, 1, 1, 0, 0] f19_b)
noncomputable def f19_n11010010011000 : Code := hide (codeAt [1, 1, 0, 1, 0, 0, 1, 0, 0, 1, 1, 0, 0, 0] f19_b)
noncomputable def f19_n110100100111 : Code := hide (codeAt [1, 1, 0, 1, 0, 0, 1, 0, 0, 1, 1, 1] f19_b)
theorem f19_entry (l : List (List V)) (l_g : G) (r : List V) (h : Heap) (K : V → Heap → Prop) : bodyW Try.prog f19_cf Try.f19 [(V.sl 6 l l_g), (V.agg r)] h K = wpA Try.prog f19_cf f19_n ⟨[(V.sl 6 l l_g), (V.agg r), V.undef, V.undef, V.undef, V.undef, V.undef, V.undef, V.undef, V.undef, V.undef, V.undef, V.undef, V.undef, V.undef, V.undef, V.undef, V.undef, V.undef, V.undef, V.undef, V.undef, V.undef, V.undef, V.undef, V.undef, V.undef, V.undef, V.undef, V.undef, V.undef, V.undef, V.undef, V.undef, V.undef, V.undef, V.undef, V.undef, V.undef, V.undef, V.undef, V.undef, V.undef, V.undef, V.undef, V.undef, V.undef, V.undef, V.undef, V.undef, V.undef, V.undef, V.undef, V.undef, V.undef, V.undef, V.undef, V.undef, V.undef, V.undef, V.undef, V.undef, V.undef, V.undef, V.undef, V.undef, V.undef, V.undef, V.undef, V.undef, V.undef, V.undef, V.undef, V.undef, V.undef, V.undef, V.undef, V.undef, V.undef, V.undef, V.undef, V.undef, V.undef, V.undef, V.undef, V.undef, V.undef, V.undef, V.undef, V.undef, V.undef, V.undef, V.undef, V.undef, V.undef, V.undef, V.undef, V.undef], []⟩ h (bodyK Try.prog Try.f19 K) := by kernel_rfl
theorem f19_n_plug : f19_n = (plug [1, 1] (codeAt [] f19_b) f19_n11) := by
  simp only [f19_n, f19_n11, hide_eq]
  try kernel_rfl
theorem f19_n_wp (l : List (List V)) (l_g : G) (r : List V) (h : Heap) (Q : Ex → Fr → Heap → Prop) : wpA Try.prog f19_cf f19_n ⟨[(V.sl 6 l l_g), (V.agg r), V.undef, V.undef, V.undef, V.undef, V.undef, V.undef, V.undef, V.undef, V.undef, V.undef, V.undef, V.undef, V.undef, V.undef, V.undef, V.undef, V.undef, V.undef, V.undef, V.undef, V.undef, V.undef, V.undef, V.undef, V.undef, V.undef, V.undef, V.undef, V.undef, V.undef, V.undef, V.undef, V.undef, V.undef, V.undef, V.undef, V.undef, V.undef, V.undef, V.undef, V.undef, V.undef, V.undef, V.undef, V.undef, V.undef, V.undef, V.undef, V.undef, V.undef, V.undef, V.undef, V.undef, V.undef, V.undef, V.undef, V.undef, V.undef, V.undef, V.undef, V.undef, V.undef, V.undef, V.undef, V.undef, V.undef, V.undef, V.undef, V.undef, V.undef, V.undef, V.undef, V.undef, V.undef, V.undef, V.undef, V.undef, V.undef, V.undef, V.undef, V.undef, V.undef, V.undef, V.undef, V.undef, V.undef, V.undef, V.undef, V.undef, V.undef, V.undef, V.undef, V.undef, V.undef, V.undef, V.undef], []⟩ h Q =
 (((List.length r) = 9) ∧ (wpA Try.prog f19_cf f19_n11 ⟨[(V.sl 6 l l_g), V.undef, V.undef, (V.lp 3 0), V.undef, V.undef, (V.sl 6 [] G.full), (V.sl 6 [] G.full), V.undef, V.undef, V.undef, V.undef, V.undef, V.undef, V.undef, V.undef, V.undef, V.undef, V.undef, V.undef, V.undef, V.undef, V.undef, V.undef, V.undef, V.undef, V.undef, V.undef, V.undef, V.undef, V.undef, V.undef, V.undef, V.undef, V.undef, V.undef, V.undef, V.undef, V.undef, V.undef, V.undef, V.undef, V.undef, V.undef, V.undef, V.undef, V.undef, V.undef, V.undef, V.undef, V.undef, V.undef, V.undef, V.undef, V.undef, V.undef, V.undef, V.undef, V.undef, V.undef, V.undef, V.undef, V.undef, V.undef, V.undef, V.undef, V.undef, V.undef, V.undef, V.undef, V.undef, V.undef, V.undef, V.undef, V.undef, V.undef, V.undef, V.undef, V.undef, V.undef, V.undef, V.undef, V.undef, V.undef, V.undef, V.undef, V.undef, V.undef, V.undef, V.undef, V.undef, V.undef, V.undef, V.undef, V.undef, V.undef, V.undef, V.undef], [(3, r)]⟩ h Q)) := wpA_at f19_n_plug (by kernel_rfl)
theorem f19_n11_eq : f19_n11 = Code.seq f19_n110 f19_n111 := by
  simp only [f19_n11, f19_n110, f19_n111, hide_eq]
  kernel_rfl
theorem f19_n110_plug : f19_n110 = (plug [1, 0] (codeAt [1, 1, 0] f19_b) f19_n11010) := by
  simp only [f19_n110, f19_n11010, hide_eq]
  try kernel_rfl
theorem f19_n110_wp (e0 : List (List V)) (g1 : G) (e2 : List (List V)) (g3 : G) (e4 : List (List V)) (g5 : G) (c6 : List V) (h : Heap) (Q : Ex → Fr → Heap → Prop) : wpA Try.prog f19_cf f19_n110 ⟨[(V.sl 6 e0 g1), V.undef, V.undef, (V.lp 3 0), V.undef, V.undef, (V.sl 6 e2 g3), (V.sl 6 e4 g5), V.undef, V.undef, V.undef, V.undef, V.undef, V.undef, V.undef, V.undef, V.undef, V.undef, V.undef, V.undef, V.undef, V.undef, V.undef, V.undef, V.undef, V.undef, V.undef, V.undef, V.undef, V.undef, V.undef, V.undef, V.undef, V.undef, V.undef, V.undef, V.undef, V.undef, V.undef, V.undef, V.undef, V.undef, V.undef, V.undef, V.undef, V.undef, V.undef, V.undef, V.undef, V.undef, V.undef, V.undef, V.undef, V.undef, V.undef, V.undef, V.undef, V.undef, V.undef, V.undef, V.undef, V.undef, V.undef, V.undef, V.undef, V.undef, V.undef, V.undef, V.undef, V.undef, V.undef, V.undef, V.undef, V.undef, V.undef, V.undef, V.undef, V.undef, V.undef, V.undef, V.undef, V.undef, V.undef, V.undef, V.undef, V.undef, V.undef, V.undef, V.undef, V.undef, V.undef, V.undef, V.undef, V.undef, V.undef, V.undef, V.undef, V.undef], [(3, c6)]⟩ h Q =
 (wpA Try.prog f19_cf f19_n11010 ⟨[(V.sl 6 e0 g1), V.undef, V.undef, (V.lp 3 0), V.undef, V.undef, (V.sl 6 e2 g3), (V.sl 6 e4 g5), (V.int Go.IntKind.i64 (0 : Int)), V.undef, V.undef, V.undef, V.undef, V.undef, V.undef, V.undef, V.undef, V.undef, V.undef, V.undef, V.undef, V.undef, V.undef, V.undef, V.undef, V.undef, V.undef, V.undef, V.undef, V.undef, V.undef, V.undef, V.undef, V.undef, V.undef, V.undef, V.undef, V.undef, V.undef, V.undef, V.undef, V.undef, V.undef, V.undef, V.undef, V.undef, V.undef, V.undef, V.undef, V.undef, V.undef, V.undef, V.undef, V.undef, V.undef, V.undef, V.undef, V.undef, V.undef, V.undef, V.undef, V.undef, V.undef, V.undef, V.undef, V.undef, V.undef, V.undef, V.undef, V.undef, V.undef, V.undef, V.undef, V.undef, V.undef, V.undef, V.undef, V.undef, V.undef, V.undef, V.undef, V.undef, V.undef, V.undef, V.undef, V.undef, V.undef, V.undef, V.undef, V.undef, V.undef, V.undef, V.undef, V.undef, V.undef, V.undef, V.undef, V.undef], [(3, c6)]⟩ h (blockK 0 Q)) := wpA_at f19_n110_plug (by kernel_rfl)
theorem f19_n11010_eq : f19_n11010 = Code.loop f19_n110100 := by
  simp only [f19_n11010, f19_n110100, hide_eq]
  kernel_rfl
def f19_n110100_F (e0 : List (List V)) (g1 : G) (e2 : List (List V)) (g3 : G) (e4 : List (List V)) (g5 : G) (x6 : Int) (c7 : List V) : Fr := ⟨[(V.sl 6 e0 g1), V.undef, V.undef, (V.lp 3 0), V.undef, V.undef, (V.sl 6 e2 g3), (V.sl 6 e4 g5), (V.int Go.IntKind.i64 x6), V.undef, V.undef, V.undef, V.undef, V.undef, V.undef, V.undef, V.undef, V.undef, V.undef, V.undef, V.undef, V.undef, V.undef, V.undef, V.undef, V.undef, V.undef, V.undef, V.undef, V.undef, V.undef, V.undef, V.undef, V.undef, V.undef, V.undef, V.undef, V.undef, V.undef, V.undef, V.undef, V.undef, V.undef, V.undef, V.undef, V.undef, V.undef, V.undef, V.undef, V.undef, V.undef, V.undef, V.undef, V.undef, V.undef, V.undef, V.undef, V.undef, V.undef, V.undef, V.undef, V.undef, V.undef, V.undef, V.undef, V.undef, V.undef, V.undef, V.undef, V.undef, V.undef, V.undef, V.undef, V.undef, V.undef, V.undef, V.undef, V.undef, V.undef, V.undef, V.undef, V.undef, V.undef, V.undef, V.undef, V.undef, V.undef, V.undef, V.undef, V.undef, V.undef, V.undef, V.undef, V.undef, V.undef, V.undef, V.undef, V.undef], [(3, c7)]⟩
theorem f19_n110100_plug : f19_n110100 = (plug [1] (codeAt [1, 1, 0, 1, 0, 0] f19_b) f19_n1101001) := by
  simp only [f19_n110100, f19_n1101001, hide_eq]
  try kernel_rfl
theorem f19_n110100_wp (e0 : List (List V)) (g1 : G) (e2 : List (List V)) (g3 : G) (e4 : List (List V)) (g5 : G) (x6 : Int) (c7 : List V) (h : Heap) (Q : Ex → Fr → Heap → Prop) : wpA Try.prog f19_cf f19_n110100 ⟨[(V.sl 6 e0 g1), V.undef, V.undef, (V.lp 3 0), V.undef, V.undef, (V.sl 6 e2 g3), (V.sl 6 e4 g5), (V.int Go.IntKind.i64 x6), V.undef, V.undef, V.undef, V.undef, V.undef, V.undef, V.undef, V.undef, V.undef, V.undef, V.undef, V.undef, V.undef, V.undef, V.undef, V.undef, V.undef, V.undef, V.undef, V.undef, V.undef, V.undef, V.undef, V.undef, V.undef, V.undef, V.undef, V.undef, V.undef, V.undef, V.undef, V.undef, V.undef, V.undef, V.undef, V.undef, V.undef, V.undef, V.undef, V.undef, V.undef, V.undef, V.undef, V.undef, V.undef, V.undef, V.undef, V.undef, V.undef, V.undef, V.undef, V.undef, V.undef, V.undef, V.undef, V.undef, V.undef, V.undef, V.undef, V.undef, V.undef, V.undef, V.undef, V.undef, V.undef, V.undef, V.undef, V.undef, V.undef, V.undef, V.undef, V.undef, V.undef, V.undef, V.undef, V.undef, V.undef, V.undef, V.undef, V.undef, V.undef, V.undef, V.undef, V.undef, V.undef, V.undef, V.undef, V.undef, V.undef], [(3, c7)]⟩ h Q =
 (let bz1 : Bool := (decide (x6 < ((List.length e0) : Int)));
 (brW bz1
 (wpA Try.prog f19_cf f19_n1101001 ⟨[(V.sl 6 e0 g1), V.undef, V.undef, (V.lp 3 0), V.undef, V.undef, (V.sl 6 e2 g3), (V.sl 6 e4 g5), (V.int Go.IntKind.i64 x6), V.undef, V.undef, V.undef, V.undef, V.undef, (V.bool bz1), V.undef, V.undef, V.undef, V.undef, V.undef, V.undef, V.undef, V.undef, V.undef, V.undef, V.undef, V.undef, V.undef, V.undef, V.undef, V.undef, V.undef, V.undef, V.undef, V.undef, V.undef, V.undef, V.undef, V.undef, V.undef, V.undef, V.undef, V.undef, V.undef, V.undef, V.undef, V.undef, V.undef, V.undef, V.undef, V.undef, V.undef, V.undef, V.undef, V.undef, V.undef, V.undef, V.undef, V.undef, V.undef, V.undef, V.undef, V.undef, V.undef, V.undef, V.undef, V.undef, V.undef, V.undef, V.undef, V.undef, V.undef, V.undef, V.undef, V.undef, V.undef, V.undef, V.undef, V.undef, V.undef, V.undef, V.undef, V.undef, V.undef, V.undef, V.undef, V.undef, V.undef, V.undef, V.undef, V.undef, V.undef, V.undef, V.undef, V.undef, V.undef, V.undef, V.undef], [(3, c7)]⟩ h Q)
 (Q (Ex.exit 0) ⟨[(V.sl 6 e0 g1), V.undef, V.undef, (V.lp 3 0), V.undef, V.undef, (V.sl 6 e2 g3), (V.sl 6 e4 g5), (V.int Go.IntKind.i64 x6), V.undef, V.undef, V.undef, V.undef, V.undef, (V.bool bz1), V.undef, V.undef, V.undef, V.undef, V.undef, V.undef, V.undef, V.undef, V.undef, V.undef, V.undef, V.undef, V.undef, V.undef, V.undef, V.undef, V.undef, V.undef, V.undef, V.undef, V.undef, V.undef, V.undef, V.undef, V.undef, V.undef, V.undef, V.undef, V.undef, V.undef, V.undef, V.undef, V.undef, V.undef, V.undef, V.undef, V.undef, V.undef, V.undef, V.undef, V.undef, V.undef, V.undef, V.undef, V.undef, V.undef, V.undef, V.undef, V.undef, V.undef, V.undef, V.undef, V.undef, V.undef, V.undef, V.undef, V.undef, V.undef, V.undef, V.undef, V.undef, V.undef, V.undef, V.undef, V.undef, V.undef, V.undef, V.undef, V.undef, V.undef, V.undef, V.undef, V.undef, V.undef, V.undef, V.undef, V.undef, V.undef, V.undef, V.undef, V.undef, V.undef, V.undef], [(3, c7)]⟩ h))) := wpA_at f19_n110100_plug (by kernel_rfl)
theorem f19_n1101001_eq : f19_n1101001 = Code.seq f19_n11010010 f19_n11010011 := by
  simp only [f19_n1101001, f19_n11010010, f19_n11010011, hide_eq]
  kernel_rfl
theorem f19_n111_plug : f19_n111 = (codeAt [1, 1, 1] f19_b) := by
  simp only [f19_n111, hide_eq]
  try kernel_rfl
theorem f19_n111_wp (e0 : List (List V)) (g1 : G) (e2 : List (List V)) (g3 : G) (e4 : List (List V)) (g5 : G) (x6 : Int) (b7 : Bool) (c8 : List V) (h : Heap) (Q : Ex → Fr → Heap → Prop) : wpA Try.prog f19_cf f19_n111 ⟨[(V.sl 6 e0 g1), V.undef, V.undef, (V.lp 3 0), V.undef, V.undef, (V.sl 6 e2 g3), (V.sl 6 e4 g5), (V.int Go.IntKind.i64 x6), V.undef, V.undef, V.undef, V.undef, V.undef, (V.bool b7), V.undef, V.undef, V.undef, V.undef, V.undef, V.undef, V.undef, V.undef, V.undef, V.undef, V.undef, V.undef, V.undef, V.undef, V.undef, V.undef, V.undef, V.undef, V.undef, V.undef, V.undef, V.undef, V.undef, V.undef, V.undef, V.undef, V.undef, V.undef, V.undef, V.undef, V.undef, V.undef, V.undef, V.undef, V.undef, V.undef, V.undef, V.undef, V.undef, V.undef, V.undef, V.undef, V.undef, V.undef, V.undef, V.undef, V.undef, V.undef, V.undef, V.undef, V.undef, V.undef, V.undef, V.undef, V.undef, V.undef, V.undef, V.undef, V.undef, V.undef, V.undef, V.undef, V.undef, V.undef, V.undef, V.undef, V.undef, V.undef, V.undef, V.undef, V.undef, V.undef, V.undef, V.undef, V.undef, V.undef, V.undef, V.undef, V.undef, V.undef, V.undef, V.undef, V.undef], [(3, c8)]⟩ h Q =
 (Q Ex.ret ⟨[V.undef, V.undef, V.undef, V.undef, (V.sl 6 e2 g3), (V.sl 6 e4 g5), V.undef, V.undef, V.undef, V.undef, V.undef, V.undef, V.undef, V.undef, V.undef, V.undef, V.undef, V.undef, V.undef, V.undef, V.undef, V.undef, V.undef, V.undef, V.undef, V.undef, V.undef, V.undef, V.undef, V.undef, V.undef, V.undef, V.undef, V.undef, V.undef, V.undef, V.undef, V.undef, V.undef, V.undef, V.undef, V.undef, V.undef, V.undef, V.undef, V.undef, V.undef, V.undef, V.undef, V.undef, V.undef, V.undef, V.undef, V.undef, V.undef, V.undef, V.undef, V.undef, V.undef, V.undef, V.undef, V.undef, V.undef, V.undef, V.undef, V.undef, V.undef, V.undef, V.undef, V.undef, V.undef, V.undef, V.undef, V.undef, V.undef, V.undef, V.undef, V.undef, V.undef, V.undef, V.undef, V.undef, V.undef, V.undef, V.undef, V.undef, V.undef, V.undef, V.undef, V.undef, V.undef, V.undef, V.undef, V.undef, V.undef, V.undef, V.undef, V.undef], []⟩ h) := wpA_at f19_n111_plug (by kernel_rfl)
theorem f19_n11010010_plug : f19_n11010010 = (plug [0, 1, 1] (codeAt [1, 1, 0, 1, 0, 0, 1, 0] f19_b) f19_n11010010011) := by
  simp only [f19_n11010010, f19_n11010010011, hide_eq]
  try kernel_rfl
theorem f19_n11010010_wp (e0 : List (List V)) (g1 : G) (e2 : List (List V)) (g3 : G) (e4 : List (List V)) (g5 : G) (x6 : Int) (b7 : Bool) (c8 : List V) (h : Heap) (Q : Ex → Fr → Heap → Prop) : wpA Try.prog f19_cf f19_n11010010 ⟨[(V.sl 6 e0 g1), V.undef, V.undef, (V.lp 3 0), V.undef, V.undef, (V.sl 6 e2 g3), (V.sl 6 e4 g5), (V.int Go.IntKind.i64 x6), V.undef, V.undef, V.undef, V.undef, V.undef, (V.bool b7), V.undef, V.undef, V.undef, V.undef, V.undef, V.undef, V.undef, V.undef, V.undef, V.undef, V.undef, V.undef, V.undef, V.undef, V.undef, V.undef, V.undef, V.undef, V.undef, V.undef, V.undef, V.undef, V.undef, V.undef, V.undef, V.undef, V.undef, V.undef, V.undef, V.undef, V.undef, V.undef, V.undef, V.undef, V.undef, V.undef, V.undef, V.undef, V.undef, V.undef, V.undef, V.undef, V.undef, V.undef, V.undef, V.undef, V.undef, V.undef, V.undef, V.undef, V.undef, V.undef, V.undef, V.undef, V.undef, V.undef, V.undef, V.undef, V.undef, V.undef, V.undef, V.undef, V.undef, V.undef, V.undef, V.undef, V.undef, V.undef, V.undef, V.undef, V.undef, V.undef, V.undef, V.undef, V.undef, V.undef, V.undef, V.undef, V.undef, V.undef, V.undef, V.undef, V.undef], [(3, c8)]⟩ h Q =
 ((0 ≤ x6 ∧ x6 < (List.length e0)) ∧ ((0 + 6 ≤ (List.length (ge e0 (Int.toNat x6)))) ∧ (let cz2 : List V := (List.take 6 (List.drop 0 (ge e0 (Int.toNat x6))));
 ((0 + 9 ≤ (List.length c8)) ∧ (let cz3 : List V := (List.take 9 (List.drop 0 c8));
 (AnyW Try.prog 23 [(V.agg cz2), (V.agg cz3)] h (fun (rz4 : V) (hz5 : Heap) =>
 ((True ∧ V.isInt Go.IntKind.i64 rz4 = true) ∧ (let bz6 : Bool := ((V.num rz4) == (0 : Int));
 (brW bz6
 ((0 ≤ x6 ∧ x6 < (List.length e0)) ∧ ((0 + 6 ≤ (List.length (ge e0 (Int.toNat x6)))) ∧ (let cz7 : List V := (List.take 6 (List.drop 0 (ge e0 (Int.toNat x6))));
 ((((List.length cz7) = 6) ∧ True) ∧ ((List.length e2) + 1 ≤ mostLen ∧ appG 6 (List.length e2) 1 g3 hz5 (fun (gz8 : G) (hz9 : Heap) =>
 (Q Ex.normal ⟨[(V.sl 6 e0 g1), V.undef, V.undef, (V.lp 3 0), V.undef, V.undef, (V.sl 6 (e2 ++ [cz7]) gz8), (V.sl 6 e4 g5), (V.int Go.IntKind.i64 x6), V.undef, V.undef, V.undef, V.undef, V.undef, V.undef, V.undef, V.undef, V.undef, V.undef, V.undef, V.undef, V.undef, V.undef, V.undef, V.undef, V.undef, V.undef, V.undef, V.undef, V.undef, V.undef, V.undef, V.undef, V.undef, V.undef, V.undef, V.undef, V.undef, V.undef, V.undef, V.undef, V.undef, V.undef, V.undef, V.undef, V.undef, V.undef, V.undef, V.undef, V.undef, V.undef, V.undef, V.undef, V.undef, V.undef, V.undef, V.undef, V.undef, V.undef, V.undef, V.undef, V.undef, V.undef, V.undef, V.undef, V.undef, V.undef, V.undef, V.undef, V.undef, V.undef, V.undef, V.undef, V.undef, V.undef, V.undef, V.undef, V.undef, V.undef, V.undef, V.undef, V.undef, V.undef, V.undef, V.undef, V.undef, V.undef, V.undef, V.undef, V.undef, V.undef, V.undef, V.undef, V.undef, V.undef, V.undef, V.undef, V.undef], [(3, c8)]⟩ hz9)))))))
 (wpA Try.prog f19_cf f19_n11010010011 ⟨[(V.sl 6 e0 g1), V.undef, V.undef, (V.lp 3 0), V.undef, V.undef, (V.sl 6 e2 g3), (V.sl 6 e4 g5), (V.int Go.IntKind.i64 x6), (V.int Go.IntKind.i64 ((List.length e4) : Int)), V.undef, V.undef, V.undef, V.undef, V.undef, V.undef, V.undef, V.undef, V.undef, V.undef, V.undef, V.undef, V.undef, V.undef, V.undef, V.undef, V.undef, V.undef, V.undef, V.undef, V.undef, V.undef, V.undef, V.undef, V.undef, V.undef, V.undef, V.undef, V.undef, V.undef, V.undef, V.undef, V.undef, V.undef, V.undef, V.undef, V.undef, V.undef, V.undef, V.undef, V.undef, V.undef, V.undef, V.undef, V.undef, V.undef, V.undef, V.undef, V.undef, V.undef, V.undef, V.undef, V.undef, V.undef, V.undef, V.undef, V.undef, V.undef, V.undef, V.undef, V.undef, V.undef, V.undef, V.undef, V.undef, V.undef, V.undef, V.undef, V.undef, V.undef, V.undef, V.undef, V.undef, V.undef, V.undef, V.undef, V.undef, V.undef, V.undef, V.undef, V.undef, V.undef, V.undef, V.undef, V.undef, V.undef, V.undef, V.undef], [(3, c8)]⟩ hz5 (blockK 1 Q)))))))))))) := wpA_at f19_n11010010_plug (by kernel_rfl)
theorem f19_n11010011_plug : f19_n11010011 = (codeAt [1, 1, 0, 1, 0, 0, 1, 1] f19_b) := by
  simp only [f19_n11010011, hide_eq]
  try kernel_rfl
theorem f19_n11010011_wp (e0 : List (List V)) (g1 : G) (e2 : List (List V)) (g3 : G) (e4 : List (List V)) (g5 : G) (x6 : Int) (c7 : List V) (h : Heap) (Q : Ex → Fr → Heap → Prop) : wpA Try.prog f19_cf f19_n11010011 ⟨[(V.sl 6 e0 g1), V.undef, V.undef, (V.lp 3 0), V.undef, V.undef, (V.sl 6 e2 g3), (V.sl 6 e4 g5), (V.int Go.IntKind.i64 x6), V.undef, V.undef, V.undef, V.undef, V.undef, V.undef, V.undef, V.undef, V.undef, V.undef, V.undef, V.undef, V.undef, V.undef, V.undef, V.undef, V.undef, V.undef, V.undef, V.undef, V.undef, V.undef, V.undef, V.undef, V.undef, V.undef, V.undef, V.undef, V.undef, V.undef, V.undef, V.undef, V.undef, V.undef, V.undef, V.undef, V.undef, V.undef, V.undef, V.undef, V.undef, V.undef, V.undef, V.undef, V.undef, V.undef, V.undef, V.undef, V.undef, V.undef, V.undef, V.undef, V.undef, V.undef, V.undef, V.undef, V.undef, V.undef, V.undef, V.undef, V.undef, V.undef, V.undef, V.undef, V.undef, V.undef, V.undef, V.undef, V.undef, V.undef, V.undef, V.undef, V.undef, V.undef, V.undef, V.undef, V.undef, V.undef, V.undef, V.undef, V.undef, V.undef, V.undef, V.undef, V.undef, V.undef, V.undef, V.undef, V.undef], [(3, c7)]⟩ h Q =
 (let iz10 : Int := (Go.IntKind.wrap Go.IntKind.i64 (x6 + (1 : Int)));
 (Q Ex.normal ⟨[(V.sl 6 e0 g1), V.undef, V.undef, (V.lp 3 0), V.undef, V.undef, (V.sl 6 e2 g3), (V.sl 6 e4 g5), (V.int Go.IntKind.i64 iz10), V.undef, V.undef, V.undef, V.undef, V.undef, V.undef, V.undef, V.undef, V.undef, V.undef, V.undef, V.undef, V.undef, V.undef, V.undef, V.undef, V.undef, V.undef, V.undef, V.undef, V.undef, V.undef, V.undef, V.undef, V.undef, V.undef, V.undef, V.undef, V.undef, V.undef, V.undef, V.undef, V.undef, V.undef, V.undef, V.undef, V.undef, V.undef, V.undef, V.undef, V.undef, V.undef, V.undef, V.undef, V.undef, V.undef, V.undef, V.undef, V.undef, V.undef, V.undef, V.undef, V.undef, V.undef, V.undef, V.undef, V.undef, V.undef, V.undef, V.undef, V.undef, V.undef, V.undef, V.undef, V.undef, V.undef, V.undef, V.undef, V.undef, V.undef, V.undef, V.undef, V.undef, V.undef, V.undef, V.undef, V.undef, V.undef, V.undef, V.undef, V.undef, V.undef, V.undef, V.undef, V.undef, V.undef, V.undef, V.undef, V.undef], [(3, c7)]⟩ h)) := wpA_at f19_n11010011_plug (by kernel_rfl)
theorem f19_n11010010011_eq : f19_n11010010011 = Code.seq f19_n110100100110 f19_n110100100111 := by
  simp only [f19_n11010010011, f19_n110100100110, f19_n110100100111, hide_eq]
  kernel_rfl
theorem f19_n110100100110_plug : f19_n110100100110 = (plug [0] (codeAt [1, 1, 0, 1, 0, 0, 1, 0, 0, 1, 1, 0] f19_b) f19_n1101001001100) := by
  simp only [f19_n110100100110, f19_n1101001001100, hide_eq]
  try kernel_rfl
theorem f19_n110100100110_wp (e0 : List (List V)) (g1 : G) (e2 : List (List V)) (g3 : G) (e4 : List (List V)) (g5 : G) (x6 : Int) (x7 : Int) (c8 : List V) (h : Heap) (Q : Ex → Fr → Heap → Prop) : wpA Try.prog f19_cf f19_n110100100110 ⟨[(V.sl 6 e0 g1), V.undef, V.undef, (V.lp 3 0), V.undef, V.undef, (V.sl 6 e2 g3), (V.sl 6 e4 g5), (V.int Go.IntKind.i64 x6), (V.int Go.IntKind.i64 x7), V.undef, V.undef, V.undef, V.undef, V.undef, V.undef, V.undef, V.undef, V.undef, V.undef, V.undef, V.undef, V.undef, V.undef, V.undef, V.undef, V.undef, V.undef, V.undef, V.undef, V.undef, V.undef, V.undef, V.undef, V.undef, V.undef, V.undef, V.undef, V.undef, V.undef, V.undef, V.undef, V.undef, V.undef, V.undef, V.undef, V.undef, V.undef, V.undef, V.undef, V.undef, V.undef, V.undef, V.undef, V.undef, V.undef, V.undef, V.undef, V.undef, V.undef, V.undef, V.undef, V.undef, V.undef, V.undef, V.undef, V.undef, V.undef, V.undef, V.undef, V.undef, V.undef, V.undef, V.undef, V.undef, V.undef, V.undef, V.undef, V.undef, V.undef, V.undef, V.undef, V.undef, V.undef, V.undef, V.undef, V.undef, V.undef, V.undef, V.undef, V.undef, V.undef, V.undef, V.undef, V.undef, V.undef, V.undef, V.undef], [(3, c8)]⟩ h Q =
 (wpA Try.prog f19_cf f19_n1101001001100 ⟨[(V.sl 6 e0 g1), V.undef, V.undef, (V.lp 3 0), V.undef, V.undef, (V.sl 6 e2 g3), (V.sl 6 e4 g5), (V.int Go.IntKind.i64 x6), (V.int Go.IntKind.i64 x7), V.undef, V.undef, V.undef, V.undef, V.undef, V.undef, V.undef, V.undef, V.undef, V.undef, V.undef, V.undef, V.undef, V.undef, V.undef, V.undef, V.undef, V.undef, V.undef, V.undef, V.undef, V.undef, V.undef, V.undef, V.undef, V.undef, V.undef, V.undef, V.undef, V.undef, V.undef, V.undef, V.undef, V.undef, V.undef, V.undef, V.undef, V.undef, V.undef, V.undef, V.undef, V.undef, V.undef, V.undef, V.undef, V.undef, V.undef, V.undef, V.undef, V.undef, V.undef, V.undef, V.undef, V.undef, V.undef, V.undef, V.undef, V.undef, V.undef, V.undef, V.undef, V.undef, V.undef, V.undef, V.undef, V.undef, V.undef, V.undef, V.undef, V.undef, V.undef, V.undef, V.undef, V.undef, V.undef, V.undef, V.undef, V.undef, V.undef, V.undef, V.undef, V.undef, V.undef, V.undef, V.undef, V.undef, V.undef, V.undef], [(3, c8)]⟩ h (blockK 2 Q)) := wpA_at f19_n110100100110_plug (by kernel_rfl)
theorem f19_n1101001001100_eq : f19_n1101001001100 = Code.loop f19_n11010010011000 := by
  simp only [f19_n1101001001100, f19_n11010010011000, hide_eq]
  kernel_rfl
def f19_n11010010011000_F (e0 : List (List V)) (g1 : G) (e2 : List (List V)) (g3 : G) (e4 : List (List V)) (g5 : G) (x6 : Int) (x7 : Int) (c8 : List V) : Fr := ⟨[(V.sl 6 e0 g1), V.undef, V.undef, (V.lp 3 0), V.undef, V.undef, (V.sl 6 e2 g3), (V.sl 6 e4 g5), (V.int Go.IntKind.i64 x6), (V.int Go.IntKind.i64 x7), V.undef, V.undef, V.undef, V.undef, V.undef, V.undef, V.undef, V.undef, V.undef, V.undef, V.undef, V.undef, V.undef, V.undef, V.undef, V.undef, V.undef, V.undef, V.undef, V.undef, V.undef, V.undef, V.undef, V.undef, V.undef, V.undef, V.undef, V.undef, V.undef, V.undef, V.undef, V.undef, V.undef, V.undef, V.undef, V.undef, V.undef, V.undef, V.undef, V.undef, V.undef, V.undef, V.undef, V.undef, V.undef, V.undef, V.undef, V.undef, V.undef, V.undef, V.undef, V.undef, V.undef, V.undef, V.undef, V.undef, V.undef, V.undef, V.undef, V.undef, V.undef, V.undef, V.undef, V.undef, V.undef, V.undef, V.undef, V.undef, V.undef, V.undef, V.undef, V.undef, V.undef, V.undef, V.undef, V.undef, V.undef, V.undef, V.undef, V.undef, V.undef, V.undef, V.undef, V.undef, V.undef, V.undef, V.undef, V.undef], [(3, c8)]⟩
theorem f19_n11010010011000_plug : f19_n11010010011000 = (codeAt [1, 1, 0, 1, 0, 0, 1, 0, 0, 1, 1, 0, 0, 0] f19_b) := by
  simp only [f19_n11010010011000, hide_eq]
  try kernel_rfl
theorem f19_n11010010011000_wp (e0 : List (List V)) (g1 : G) (e2 : List (List V)) (g3 : G) (e4 : List (List V)) (g5 : G) (x6 : Int) (x7 : Int) (c8 : List V) (h : Heap) (Q : Ex → Fr → Heap → Prop) : wpA Try.prog f19_cf f19_n11010010011000 ⟨[(V.sl 6 e0 g1), V.undef, V.undef, (V.lp 3 0), V.undef, V.undef, (V.sl 6 e2 g3), (V.sl 6 e4 g5), (V.int Go.IntKind.i64 x6), (V.int Go.IntKind.i64 x7), V.undef, V.undef, V.undef, V.undef, V.undef, V.undef, V.undef, V.undef, V.undef, V.undef, V.undef, V.undef, V.undef, V.undef, V.undef, V.undef, V.undef, V.undef, V.undef, V.undef, V.undef, V.undef, V.undef, V.undef, V.undef, V.undef, V.undef, V.undef, V.undef, V.undef, V.undef, V.undef, V.undef, V.undef, V.undef, V.undef, V.undef, V.undef, V.undef, V.undef, V.undef, V.undef, V.undef, V.undef, V.undef, V.undef, V.undef, V.undef, V.undef, V.undef, V.undef, V.undef, V.undef, V.undef, V.undef, V.undef, V.undef, V.undef, V.undef, V.undef, V.undef, V.undef, V.undef, V.undef, V.undef, V.undef, V.undef, V.undef, V.undef, V.undef, V.undef, V.undef, V.undef, V.undef, V.undef, V.undef, V.undef, V.undef, V.undef, V.undef, V.undef, V.undef, V.undef, V.undef, V.undef, V.undef, V.undef, V.undef], [(3, c8)]⟩ h Q =
 (let bz11 : Bool := (decide ((0 : Int) < x7));
 ((bz11 = true → bz11 = true) ∧ (let iz12 : Int := (Go.IntKind.wrap Go.IntKind.i64 (x7 - (1 : Int)));
 ((bz11 = true → bz11 = true) ∧ ((bz11 = true → bz11 = true) ∧ ((bz11 = true → (0 ≤ iz12 ∧ iz12 < (List.length e4))) ∧ ((bz11 = true → bz11 = true) ∧ ((bz11 = true → bz11 = true) ∧ ((bz11 = true → (5 < (List.length (ge e4 (Int.toNat iz12))) ∧ V.isInt Go.IntKind.u64 (gv (ge e4 (Int.toNat iz12)) 5) = true)) ∧ (let iz13 : Int := (V.num (gv (ge e4 (Int.toNat iz12)) 5));
 ((bz11 = true → bz11 = true) ∧ ((bz11 = true → bz11 = true) ∧ ((bz11 = true → (0 ≤ x6 ∧ x6 < (List.length e0))) ∧ ((bz11 = true → bz11 = true) ∧ ((bz11 = true → bz11 = true) ∧ ((bz11 = true → (5 < (List.length (ge e0 (Int.toNat x6))) ∧ V.isInt Go.IntKind.u64 (gv (ge e0 (Int.toNat x6)) 5) = true)) ∧ (let iz14 : Int := (V.num (gv (ge e0 (Int.toNat x6)) 5));
 ((bz11 = true → bz11 = true) ∧ ((bz11 = true → bz11 = true) ∧ ((bz11 = true → bz11 = true) ∧ (let bz15 : Bool := (bz11 && !(decide (iz14 < iz13)));
 (let bz16 : Bool := (bz11 && !(decide (iz14 < iz13)));
 (((bz11 && !(decide (iz14 < iz13))) = true → bz16 = true) ∧ (let bz17 : Bool := (bz11 && !(decide (iz14 < iz13)));
 (let iz18 : Int := (Go.IntKind.wrap Go.IntKind.i64 (x7 - (1 : Int)));
 (((bz11 && !(decide (iz14 < iz13))) = true → bz15 = true) ∧ (((bz11 && !(decide (iz14 < iz13))) = true → bz17 = true) ∧ (((bz11 && !(decide (iz14 < iz13))) = true → (0 ≤ iz18 ∧ iz18 < (List.length e4))) ∧ (let bz19 : Bool := (bz11 && !(decide (iz14 < iz13)));
 (((bz11 && !(decide (iz14 < iz13))) = true → bz19 = true) ∧ (let bz20 : Bool := (bz11 && !(decide (iz14 < iz13)));
 (((bz11 && !(decide (iz14 < iz13))) = true → bz20 = true) ∧ (((bz11 && !(decide (iz14 < iz13))) = true → (5 < (List.length (ge e4 (Int.toNat iz18))) ∧ V.isInt Go.IntKind.u64 (gv (ge e4 (Int.toNat iz18)) 5) = true)) ∧ (let bz21 : Bool := (bz11 && !(decide (iz14 < iz13)));
 (let iz22 : Int := (V.num (gv (ge e4 (Int.toNat iz18)) 5));
 (let bz23 : Bool := (bz11 && !(decide (iz14 < iz13)));
 (let bz24 : Bool := (bz11 && !(decide (iz14 < iz13)));
 (((bz11 && !(decide (iz14 < iz13))) = true → bz23 = true) ∧ (((bz11 && !(decide (iz14 < iz13))) = true → bz24 = true) ∧ (((bz11 && !(decide (iz14 < iz13))) = true → (0 ≤ x6 ∧ x6 < (List.length e0))) ∧ (let bz25 : Bool := (bz11 && !(decide (iz14 < iz13)));
 (((bz11 && !(decide (iz14 < iz13))) = true → bz25 = true) ∧ (let bz26 : Bool := (bz11 && !(decide (iz14 < iz13)));
 (((bz11 && !(decide (iz14 < iz13))) = true → bz26 = true) ∧ (((bz11 && !(decide (iz14 < iz13))) = true → (5 < (List.length (ge e0 (Int.toNat x6))) ∧ V.isInt Go.IntKind.u64 (gv (ge e0 (Int.toNat x6)) 5) = true)) ∧ (let bz27 : Bool := (bz11 && !(decide (iz14 < iz13)));
 (let iz28 : Int := (V.num (gv (ge e0 (Int.toNat x6)) 5));
 (((bz11 && !(decide (iz14 < iz13))) = true → bz21 = true) ∧ (((bz11 && !(decide (iz14 < iz13))) = true → bz27 = true) ∧ (let bz29 : Bool := (bz11 && !(decide (iz14 < iz13)));
 (((bz11 && !(decide (iz14 < iz13))) = true → bz29 = true) ∧ (let bz30 : Bool := (bz11 && !(decide (iz14 < iz13)));
 (((bz30 && (iz22 == iz28)) = true → (bz30 && (iz22 == iz28)) = true) ∧ (let iz31 : Int := (Go.IntKind.wrap Go.IntKind.i64 (x7 - (1 : Int)));
 (((bz30 && (iz22 == iz28)) = true → (bz30 && (iz22 == iz28)) = true) ∧ (((bz30 && (iz22 == iz28)) = true → (bz30 && (iz22 == iz28)) = true) ∧ (((bz30 && (iz22 == iz28)) = true → (0 ≤ iz31 ∧ iz31 < (List.length e4))) ∧ (((bz30 && (iz22 == iz28)) = true → (bz30 && (iz22 == iz28)) = true) ∧ (((bz30 && (iz22 == iz28)) = true → (bz30 && (iz22 == iz28)) = true) ∧ (((bz30 && (iz22 == iz28)) = true → (0 < (List.length (ge e4 (Int.toNat iz31))) ∧ V.isInt Go.IntKind.u64 (gv (ge e4 (Int.toNat iz31)) 0) = true)) ∧ (let iz32 : Int := (V.num (gv (ge e4 (Int.toNat iz31)) 0));
 (((bz30 && (iz22 == iz28)) = true → (bz30 && (iz22 == iz28)) = true) ∧ (((bz30 && (iz22 == iz28)) = true → (bz30 && (iz22 == iz28)) = true) ∧ (((bz30 && (iz22 == iz28)) = true → (0 ≤ x6 ∧ x6 < (List.length e0))) ∧ (((bz30 && (iz22 == iz28)) = true → (bz30 && (iz22 == iz28)) = true) ∧ (((bz30 && (iz22 == iz28)) = true → (bz30 && (iz22 == iz28)) = true) ∧ (((bz30 && (iz22 == iz28)) = true → (0 < (List.length (ge e0 (Int.toNat x6))) ∧ V.isInt Go.IntKind.u64 (gv (ge e0 (Int.toNat x6)) 0) = true)) ∧ (let iz33 : Int := (V.num (gv (ge e0 (Int.toNat x6)) 0));
 (((bz30 && (iz22 == iz28)) = true → (bz30 && (iz22 == iz28)) = true) ∧ (((bz30 && (iz22 == iz28)) = true → (bz30 && (iz22 == iz28)) = true) ∧ (((bz11 && !(decide (iz14 < iz13))) = true → bz30 = true) ∧ (((bz11 && !(decide (iz14 < iz13))) = true → (((iz22 == iz28) = true → (bz30 && (iz22 == iz28)) = true) ∧ True)) ∧ (let bz34 : Bool := (bz11 && !(decide (iz14 < iz13)));
 (let bz35 : Bool := (cond (iz22 == iz28) (decide (iz33 < iz32)) false);
 ((bz11 = true → bz11 = true) ∧ ((bz11 = true → (((decide (iz14 < iz13)) = false → bz34 = true) ∧ True)) ∧ (let bz36 : Bool := (cond (decide (iz14 < iz13)) true bz35);
 (((bz11 = true → bz11 = true) ∧ True) ∧ (brW (cond bz11 bz36 false)
 (let iz37 : Int := (Go.IntKind.wrap Go.IntKind.i64 (x7 - (1 : Int)));
 (Q Ex.normal ⟨[(V.sl 6 e0 g1), V.undef, V.undef, (V.lp 3 0), V.undef, V.undef, (V.sl 6 e2 g3), (V.sl 6 e4 g5), (V.int Go.IntKind.i64 x6), (V.int Go.IntKind.i64 iz37), V.undef, V.undef, V.undef, V.undef, V.undef, V.undef, V.undef, V.undef, V.undef, V.undef, V.undef, V.undef, V.undef, V.undef, V.undef, V.undef, V.undef, V.undef, V.undef, V.undef, V.undef, V.undef, V.undef, V.undef, V.undef, V.undef, V.undef, V.undef, V.undef, V.undef, V.undef, V.undef, V.undef, V.undef, V.undef, V.undef, V.undef, V.undef, V.undef, V.undef, V.undef, V.undef, V.undef, V.undef, V.undef, V.undef, V.undef, V.undef, V.undef, V.undef, V.undef, V.undef, V.undef, V.undef, V.undef, V.undef, V.undef, V.undef, V.undef, V.undef, V.undef, V.undef, V.undef, V.undef, V.undef, V.undef, V.undef, V.undef, V.undef, V.undef, V.undef, V.undef, V.undef, V.undef, V.undef, V.undef, V.undef, V.undef, V.undef, V.undef, V.undef, V.undef, V.undef, V.undef, V.undef, V.undef, V.undef, V.undef], [(3, c8)]⟩ h))
 (Q (Ex.exit 2) ⟨[(V.sl 6 e0 g1), V.undef, V.undef, (V.lp 3 0), V.undef, V.undef, (V.sl 6 e2 g3), (V.sl 6 e4 g5), (V.int Go.IntKind.i64 x6), (V.int Go.IntKind.i64 x7), V.undef, V.undef, V.undef, V.undef, V.undef, V.undef, V.undef, V.undef, V.undef, V.undef, V.undef, V.undef, V.undef, V.undef, V.undef, V.undef, V.undef, V.undef, V.undef, V.undef, V.undef, V.undef, V.undef, V.undef, V.undef, V.undef, V.undef, V.undef, V.undef, V.undef, V.undef, V.undef, V.undef, V.undef, V.undef, V.undef, V.undef, V.undef, V.undef, V.undef, V.undef, V.undef, V.undef, V.undef, V.undef, V.undef, V.undef, V.undef, V.undef, V.undef, V.undef, V.undef, V.undef, V.undef, V.undef, V.undef, V.undef, V.undef, V.undef, V.undef, V.undef, V.undef, V.undef, V.undef, V.undef, V.undef, (V.bool (cond bz11 bz36 false)), V.undef, V.undef, V.undef, V.undef, V.undef, V.undef, V.undef, V.undef, V.undef, V.undef, V.undef, V.undef, V.undef, V.undef, V.undef, V.undef, V.undef, V.undef, V.undef, V.undef, V.undef], [(3, c8)]⟩ h)))))))))))))))))))))))))))))))))))))))))))))))))))))))))))))))))))))))))))))))) := wpA_at f19_n11010010011000_plug (by kernel_rfl)
def f19_n110100100111_F (e0 : List (List V)) (g1 : G) (e2 : List (List V)) (g3 : G) (e4 : List (List V)) (g5 : G) (x6 : Int) (x7 : Int) (b8 : Bool) (c9 : List V) : Fr := ⟨[(V.sl 6 e0 g1), V.undef, V.undef, (V.lp 3 0), V.undef, V.undef, (V.sl 6 e2 g3), (V.sl 6 e4 g5), (V.int Go.IntKind.i64 x6), (V.int Go.IntKind.i64 x7), V.undef, V.undef, V.undef, V.undef, V.undef, V.undef, V.undef, V.undef, V.undef, V.undef, V.undef, V.undef, V.undef, V.undef, V.undef, V.undef, V.undef, V.undef, V.undef, V.undef, V.undef, V.undef, V.undef, V.undef, V.undef, V.undef, V.undef, V.undef, V.undef, V.undef, V.undef, V.undef, V.undef, V.undef, V.undef, V.undef, V.undef, V.undef, V.undef, V.undef, V.undef, V.undef, V.undef, V.undef, V.undef, V.undef, V.undef, V.undef, V.undef, V.undef, V.undef, V.undef, V.undef, V.undef, V.undef, V.undef, V.undef, V.undef, V.undef, V.undef, V.undef, V.undef, V.undef, V.undef, V.undef, V.undef, (V.bool b8), V.undef, V.undef, V.undef, V.undef, V.undef, V.undef, V.undef, V.undef, V.undef, V.undef, V.undef, V.undef, V.undef, V.undef, V.undef, V.undef, V.undef, V.undef, V.undef, V.undef, V.undef], [(3, c9)]⟩
theorem f19_n110100100111_plug : f19_n110100100111 = (codeAt [1, 1, 0, 1, 0, 0, 1, 0, 0, 1, 1, 1] f19_b) := by
  simp only [f19_n110100100111, hide_eq]
  try kernel_rfl
theorem f19_n110100100111_wp (e0 : List (List V)) (g1 : G) (e2 : List (List V)) (g3 : G) (e4 : List (List V)) (g5 : G) (x6 : Int) (x7 : Int) (b8 : Bool) (c9 : List V) (h : Heap) (Q : Ex → Fr → Heap → Prop) : wpA Try.prog f19_cf f19_n110100100111 ⟨[(V.sl 6 e0 g1), V.undef, V.undef, (V.lp 3 0), V.undef, V.undef, (V.sl 6 e2 g3), (V.sl 6 e4 g5), (V.int Go.IntKind.i64 x6), (V.int Go.IntKind.i64 x7), V.undef, V.undef, V.undef, V.undef, V.undef, V.undef, V.undef, V.undef, V.undef, V.undef, V.undef, V.undef, V.undef, V.undef, V.undef, V.undef, V.undef, V.undef, V.undef, V.undef, V.undef, V.undef, V.undef, V.undef, V.undef, V.undef, V.undef, V.undef, V.undef, V.undef, V.undef, V.undef, V.undef, V.undef, V.undef, V.undef, V.undef, V.undef, V.undef, V.undef, V.undef, V.undef, V.undef, V.undef, V.undef, V.undef, V.undef, V.undef, V.undef, V.undef, V.undef, V.undef, V.undef, V.undef, V.undef, V.undef, V.undef, V.undef, V.undef, V.undef, V.undef, V.undef, V.undef, V.undef, V.undef, V.undef, (V.bool b8), V.undef, V.undef, V.undef, V.undef, V.undef, V.undef, V.undef, V.undef, V.undef, V.undef, V.undef, V.undef, V.undef, V.undef, V.undef, V.undef, V.undef, V.undef, V.undef, V.undef, V.undef], [(3, c9)]⟩ h Q =
 ((0 ≤ (0 : Int) ∧ (0 : Int) ≤ x7 ∧ x7 ≤ (List.length e4)) ∧ (let ez38 : List (List V) := (List.drop (Int.toNat (0 : Int)) (List.take (Int.toNat x7) e4));
 (0 + (List.length ez38) ≤ mostLen ∧ appG 6 0 (List.length ez38) G.full h (fun (gz39 : G) (hz40 : Heap) =>
 ((0 ≤ x6 ∧ x6 < (List.length e0)) ∧ ((0 + 6 ≤ (List.length (ge e0 (Int.toNat x6)))) ∧ (let cz41 : List V := (List.take 6 (List.drop 0 (ge e0 (Int.toNat x6))));
 ((((List.length cz41) = 6) ∧ True) ∧ ((List.length ([] ++ ez38)) + 1 ≤ mostLen ∧ appG 6 (List.length ([] ++ ez38)) 1 gz39 hz40 (fun (gz42 : G) (hz43 : Heap) =>
 ((0 ≤ x7 ∧ x7 ≤ ((List.length e4) : Int) ∧ ((List.length e4) : Int) ≤ (List.length e4)) ∧ (let ez44 : List (List V) := (List.drop (Int.toNat x7) (List.take (Int.toNat ((List.length e4) : Int)) e4));
 ((List.length (([] ++ ez38) ++ [cz41])) + (List.length ez44) ≤ mostLen ∧ appG 6 (List.length (([] ++ ez38) ++ [cz41])) (List.length ez44) gz42 hz43 (fun (gz45 : G) (hz46 : Heap) =>
 (let ez47 : List (List V) := ((([] ++ ez38) ++ [cz41]) ++ ez44);
 (Q Ex.normal ⟨[(V.sl 6 e0 g1), V.undef, V.undef, (V.lp 3 0), V.undef, V.undef, (V.sl 6 e2 g3), (V.sl 6 ez47 gz45), (V.int Go.IntKind.i64 x6), V.undef, V.undef, V.undef, V.undef, V.undef, V.undef, V.undef, V.undef, V.undef, V.undef, V.undef, V.undef, V.undef, V.undef, V.undef, V.undef, V.undef, V.undef, V.undef, V.undef, V.undef, V.undef, V.undef, V.undef, V.undef, V.undef, V.undef, V.undef, V.undef, V.undef, V.undef, V.undef, V.undef, V.undef, V.undef, V.undef, V.undef, V.undef, V.undef, V.undef, V.undef, V.undef, V.undef, V.undef, V.undef, V.undef, V.undef, V.undef, V.undef, V.undef, V.undef, V.undef, V.undef, V.undef, V.undef, V.undef, V.undef, V.undef, V.undef, V.undef, V.undef, V.undef, V.undef, V.undef, V.undef, V.undef, V.undef, V.undef, V.undef, V.undef, V.undef, V.undef, V.undef, V.undef, V.undef, V.undef, V.undef, V.undef, V.undef, V.undef, V.undef, V.undef, V.undef, V.undef, V.undef, V.undef, V.undef, V.undef, V.undef], [(3, c9)]⟩ hz46)))))))))))))))) := wpA_at f19_n110100100111_plug (by kernel_rfl)
theorem f19_end1 (e0 : List (List V)) (g1 : G) (e2 : List (List V)) (g3 : G) (h : Heap) (K : V → Heap → Prop) : bodyK Try.prog Try.f19 K Ex.ret ⟨[V.undef, V.undef, V.undef, V.undef, (V.sl 6 e0 g1), (V.sl 6 e2 g3), V.undef, V.undef, V.undef, V.undef, V.undef, V.undef, V.undef, V.undef, V.undef, V.undef, V.undef, V.undef, V.undef, V.undef, V.undef, V.undef, V.undef, V.undef, V.undef, V.undef, V.undef, V.undef, V.undef, V.undef, V.undef, V.undef, V.undef, V.undef, V.undef, V.undef, V.undef, V.undef, V.undef, V.undef, V.undef, V.undef, V.undef, V.undef, V.undef, V.undef, V.undef, V.undef, V.undef, V.undef, V.undef, V.undef, V.undef, V.undef, V.undef, V.undef, V.undef, V.undef, V.undef, V.undef, V.undef, V.undef, V.undef, V.undef, V.undef, V.undef, V.undef, V.undef, V.undef, V.undef, V.undef, V.undef, V.undef, V.undef, V.undef, V.undef, V.undef, V.undef, V.undef, V.undef, V.undef, V.undef, V.undef, V.undef, V.undef, V.undef, V.undef, V.undef, V.undef, V.undef, V.undef, V.undef, V.undef, V.undef, V.undef, V.undef, V.undef, V.undef], []⟩ h = (K (V.tup [(V.sl 6 e0 g1), (V.sl 6 e2 g3)]) h) := by kernel_rfl
end

section
set_option linter.all false
set_option maxRecDepth 100000
open Go Go.Proofs Jb
def f21_cf : Cfg := ⟨[], [(0, [4]), (1, [6, 7, 8, 9]), (2, [0, 1, 10]), (3, [10, 11]), (5, [14, 15]), (6, [5, 16, 17, 18, 19, 20, 21, 22, 23]), (7, [0, 1, 12, 13, 24]), (8, [24, 25]), (9, [0, 1, 12, 13, 14])]⟩
noncomputable def f21_b : Code := bodyOf Try.f21
noncomputable def f21_n : Code :=  (codeAt [] f21_b)
noncomputable def f21_n11 : Code := hide (codeAt [1, 1] f21_b)
noncomputable def f21_n110 : Code := hide (codeAt [1, 1, 0] f21_b)
noncomputable def f21_n11010 : Code := hide (codeAt [1, 1, 0, 1, 0] f21_b)
noncomputable def f21_n110100 : Code := hide (codeAt [1, 1, 0, 1, 0, 0] f21_b)
noncomputable def f21_n111 : Code := hide (codeAt [1, 1, 1] f21_b)
theorem f21_entry (l : Nat) (l_o : Nat) (l_n : Nat) (l_c : Nat) (m : List (List V)) (m_g : G) (h : Heap) (K : V → Heap → Prop) : bodyW Try.prog f21_cf Try.f21 [(V.sref 6 l l_o l_n l_c), (V.sl 6 m m_g)] h K = wpA Try.prog f21_cf f21_n ⟨[(V.sref 6 l l_o l_n l_c), (V.sl 6 m m_g), V.undef, V.undef, V.undef, V.undef, V.undef, V.undef, V.undef, V.undef, V.undef, V.undef, V.undef, V.undef, V.undef, V.undef, V.undef, V.undef, V.undef, V.undef, V.undef, V.undef, V.undef, V.undef, V.undef, V.undef], []⟩ h (bodyK Try.prog Try.f21 K) := by kernel_rfl
theorem f21_n_plug : f21_n = (plug [1, 1] (codeAt [] f21_b) f21_n11) := by
  simp only [f21_n, f21_n11, hide_eq]
  try kernel_rfl
theorem f21_n_wp (l : Nat) (l_o : Nat) (l_n : Nat) (l_c : Nat) (m : List (List V)) (m_g : G) (h : Heap) (Q : Ex → Fr → Heap → Prop) : wpA Try.prog f21_cf f21_n ⟨[(V.sref 6 l l_o l_n l_c), (V.sl 6 m m_g), V.undef, V.undef, V.undef, V.undef, V.undef, V.undef, V.undef, V.undef, V.undef, V.undef, V.undef, V.undef, V.undef, V.undef, V.undef, V.undef, V.undef, V.undef, V.undef, V.undef, V.undef, V.undef, V.undef, V.undef], []⟩ h Q =
 (let bz1 : Bool := ((l_n : Int) != ((List.length m) : Int));
 (brW bz1
 (Q Ex.ret ⟨[V.undef, V.undef, V.undef, V.undef, (V.bool false), V.undef, V.undef, V.undef, V.undef, V.undef, V.undef, V.undef, V.undef, V.undef, V.undef, V.undef, V.undef, V.undef, V.undef, V.undef, V.undef, V.undef, V.undef, V.undef, V.undef, V.undef], []⟩ h)
 (wpA Try.prog f21_cf f21_n11 ⟨[(V.sref 6 l l_o l_n l_c), (V.sl 6 m m_g), V.undef, V.undef, V.undef, V.undef, V.undef, V.undef, V.undef, V.undef, (V.bool bz1), V.undef, V.undef, V.undef, V.undef, V.undef, V.undef, V.undef, V.undef, V.undef, V.undef, V.undef, V.undef, V.undef, V.undef, V.undef], []⟩ h Q))) := wpA_at f21_n_plug (by kernel_rfl)
theorem f21_n11_eq : f21_n11 = Code.seq f21_n110 f21_n111 := by
  simp only [f21_n11, f21_n110, f21_n111, hide_eq]
  kernel_rfl
theorem f21_n110_plug : f21_n110 = (plug [1, 0] (codeAt [1, 1, 0] f21_b) f21_n11010) := by
  simp only [f21_n110, f21_n11010, hide_eq]
  try kernel_rfl
theorem f21_n110_wp (l0 : Nat) (o1 : Nat) (n2 : Nat) (c3 : Nat) (e4 : List (List V)) (g5 : G) (b6 : Bool) (h : Heap) (Q : Ex → Fr → Heap → Prop) : wpA Try.prog f21_cf f21_n110 ⟨[(V.sref 6 l0 o1 n2 c3), (V.sl 6 e4 g5), V.undef, V.undef, V.undef, V.undef, V.undef, V.undef, V.undef, V.undef, (V.bool b6), V.undef, V.undef, V.undef, V.undef, V.undef, V.undef, V.undef, V.undef, V.undef, V.undef, V.undef, V.undef, V.undef, V.undef, V.undef], []⟩ h Q =
 (wpA Try.prog f21_cf f21_n11010 ⟨[(V.sref 6 l0 o1 n2 c3), (V.sl 6 e4 g5), V.undef, V.undef, V.undef, V.undef, V.undef, V.undef, V.undef, V.undef, V.undef, V.undef, (V.int Go.IntKind.i64 (n2 : Int)), (V.int Go.IntKind.i64 (0 : Int)), V.undef, V.undef, V.undef, V.undef, V.undef, V.undef, V.undef, V.undef, V.undef, V.undef, V.undef, V.undef], []⟩ h (blockK 0 Q)) := wpA_at f21_n110_plug (by kernel_rfl)
theorem f21_n11010_eq : f21_n11010 = Code.loop f21_n110100 := by
  simp only [f21_n11010, f21_n110100, hide_eq]
  kernel_rfl
def f21_n110100_F (l0 : Nat) (o1 : Nat) (n2 : Nat) (c3 : Nat) (e4 : List (List V)) (g5 : G) (x6 : Int) (x7 : Int) : Fr := ⟨[(V.sref 6 l0 o1 n2 c3), (V.sl 6 e4 g5), V.undef, V.undef, V.undef, V.undef, V.undef, V.undef, V.undef, V.undef, V.undef, V.undef, (V.int Go.IntKind.i64 x6), (V.int Go.IntKind.i64 x7), V.undef, V.undef, V.undef, V.undef, V.undef, V.undef, V.undef, V.undef, V.undef, V.undef, V.undef, V.undef], []⟩
theorem f21_n110100_plug : f21_n110100 = (codeAt [1, 1, 0, 1, 0, 0] f21_b) := by
  simp only [f21_n110100, hide_eq]
  try kernel_rfl
theorem f21_n110100_wp (l0 : Nat) (o1 : Nat) (n2 : Nat) (c3 : Nat) (e4 : List (List V)) (g5 : G) (x6 : Int) (x7 : Int) (h : Heap) (Q : Ex → Fr → Heap → Prop) : wpA Try.prog f21_cf f21_n110100 ⟨[(V.sref 6 l0 o1 n2 c3), (V.sl 6 e4 g5), V.undef, V.undef, V.undef, V.undef, V.undef, V.undef, V.undef, V.undef, V.undef, V.undef, (V.int Go.IntKind.i64 x6), (V.int Go.IntKind.i64 x7), V.undef, V.undef, V.undef, V.undef, V.undef, V.undef, V.undef, V.undef, V.undef, V.undef, V.undef, V.undef], []⟩ h Q =
 (brW (decide (x7 < x6))
 ((0 ≤ x7 ∧ x7 < n2) ∧ (((o1 + ((Int.toNat x7) * 6)) + 6 ≤ (List.length (cellsAt h l0))) ∧ (let cz2 : List V := (List.take 6 (List.drop (o1 + ((Int.toNat x7) * 6)) (cellsAt h l0)));
 ((0 ≤ x7 ∧ x7 < (List.length e4)) ∧ ((0 + 6 ≤ (List.length (ge e4 (Int.toNat x7)))) ∧ (let cz3 : List V := (List.take 6 (List.drop 0 (ge e4 (Int.toNat x7))));
 ((fits [(V.int Go.IntKind.u64 (0 : Int)), (V.int Go.IntKind.i64 (0 : Int)), (V.int Go.IntKind.i64 (0 : Int)), (V.int Go.IntKind.i64 (0 : Int)), (V.int Go.IntKind.i64 (0 : Int)), (V.int Go.IntKind.u64 (0 : Int))] cz2 = true ∧ fits [(V.int Go.IntKind.u64 (0 : Int)), (V.int Go.IntKind.i64 (0 : Int)), (V.int Go.IntKind.i64 (0 : Int)), (V.int Go.IntKind.i64 (0 : Int)), (V.int Go.IntKind.i64 (0 : Int)), (V.int Go.IntKind.u64 (0 : Int))] cz3 = true) ∧ (brW (!(eqlCells cz2 cz3))
 (Q Ex.ret ⟨[V.undef, V.undef, V.undef, V.undef, (V.bool false), V.undef, V.undef, V.undef, V.undef, V.undef, V.undef, V.undef, V.undef, V.undef, V.undef, V.undef, V.undef, V.undef, V.undef, V.undef, V.undef, V.undef, V.undef, V.undef, V.undef, V.undef], []⟩ h)
 (let iz4 : Int := (Go.IntKind.wrap Go.IntKind.i64 (x7 + (1 : Int)));
 (Q Ex.normal ⟨[(V.sref 6 l0 o1 n2 c3), (V.sl 6 e4 g5), V.undef, V.undef, V.undef, V.undef, V.undef, V.undef, V.undef, V.undef, V.undef, V.undef, (V.int Go.IntKind.i64 x6), (V.int Go.IntKind.i64 iz4), V.undef, V.undef, V.undef, V.undef, V.undef, V.undef, V.undef, V.undef, V.undef, V.undef, V.undef, V.undef], []⟩ h))))))))))
 (Q (Ex.exit 0) ⟨[(V.sref 6 l0 o1 n2 c3), (V.sl 6 e4 g5), V.undef, V.undef, V.undef, V.undef, V.undef, V.undef, V.undef, V.undef, V.undef, V.undef, (V.int Go.IntKind.i64 x6), (V.int Go.IntKind.i64 x7), (V.bool (decide (x7 < x6))), V.undef, V.undef, V.undef, V.undef, V.undef, V.undef, V.undef, V.undef, V.undef, V.undef, V.undef], []⟩ h)) := wpA_at f21_n110100_plug (by kernel_rfl)
theorem f21_n111_plug : f21_n111 = (codeAt [1, 1, 1] f21_b) := by
  simp only [f21_n111, hide_eq]
  try kernel_rfl
theorem f21_n111_wp (l0 : Nat) (o1 : Nat) (n2 : Nat) (c3 : Nat) (e4 : List (List V)) (g5 : G) (x6 : Int) (x7 : Int) (b8 : Bool) (h : Heap) (Q : Ex → Fr → Heap → Prop) : wpA Try.prog f21_cf f21_n111 ⟨[(V.sref 6 l0 o1 n2 c3), (V.sl 6 e4 g5), V.undef, V.undef, V.undef, V.undef, V.undef, V.undef, V.undef, V.undef, V.undef, V.undef, (V.int Go.IntKind.i64 x6), (V.int Go.IntKind.i64 x7), (V.bool b8), V.undef, V.undef, V.undef, V.undef, V.undef, V.undef, V.undef, V.undef, V.undef, V.undef, V.undef], []⟩ h Q =
 (Q Ex.ret ⟨[V.undef, V.undef, V.undef, V.undef, (V.bool true), V.undef, V.undef, V.undef, V.undef, V.undef, V.undef, V.undef, V.undef, V.undef, V.undef, V.undef, V.undef, V.undef, V.undef, V.undef, V.undef, V.undef, V.undef, V.undef, V.undef, V.undef], []⟩ h) := wpA_at f21_n111_plug (by kernel_rfl)
theorem f21_end1 (b0 : Bool) (h : Heap) (K : V → Heap → Prop) : bodyK Try.prog Try.f21 K Ex.ret ⟨[V.undef, V.undef, V.undef, V.undef, (V.bool b0), V.undef, V.undef, V.undef, V.undef, V.undef, V.undef, V.undef, V.undef, V.undef, V.undef, V.undef, V.undef, V.undef, V.undef, V.undef, V.undef, V.undef, V.undef, V.undef, V.undef, V.undef], []⟩ h = (K (V.bool b0) h) := by kernel_rfl
end

section
open Go Go.Proofs Jb
set_option linter.unusedSimpArgs false

theorem appG_any {es n m : Nat} {g : G} {h : Heap} {K : G → Heap → Prop} (c : Can g es n h)
    (k : ∀ g' h', Can g' es (n + m) h' → (∀ l o, h l = some o → g ≠ .own l → h' l = some o ∧ g' ≠ .own l) → K g' h') : appG es n m g h K := by
  rcases c with rfl | ⟨s, rfl, hs⟩
  · cases m with
    | zero => exact k .full h .full fun l o e _ => ⟨e, by simp⟩
    | succ m =>
      intro s hs
      refine k (.own s) _ (.inr ⟨s, rfl, by simp⟩) fun l o hl _ => ?_
      have : l ≠ s := by rintro rfl; rw [hs] at hl; cases hl
      exact ⟨by rw [upd_ne h _ this]; exact hl, fun e => by injection e with e; exact this e.symm⟩
  · refine ⟨hs, k (.own s) _ (.inr ⟨s, rfl, by simp⟩) fun l o hl hg => ?_⟩
    have : l ≠ s := by rintro rfl; exact hg rfl
    exact ⟨by rw [upd_ne h _ this]; exact hl, hg⟩

theorem Sorted.insert {F X : List Odr} {x : Odr} {at' : Nat} (s : Sorted F X) (lo : ∀ p, p < at' → Le2 (go X p) x) (hi : ∀ p, at' ≤ p → p < X.length → Lt2 x (go X p)) (ha : at' ≤ X.length) :
    Sorted (F ++ [x]) ((X.take at' ++ [x]) ++ X.drop at') := by
  obtain ⟨s1, s2⟩ := s
  have m1 : ∀ y ∈ X.take at', Le2 y x := fun y hy => by
    obtain ⟨k, hk, rfl⟩ := List.mem_iff_getElem.1 hy
    simp at hk
    have := lo k (by omega)
    rw [go_lt _ (by omega)] at this
    simpa using this
  have m2 : ∀ y ∈ X.drop at', Lt2 x y := fun y hy => by
    obtain ⟨k, hk, rfl⟩ := List.mem_iff_getElem.1 hy
    simp at hk
    have := hi (at' + k) (by omega) (by omega)
    rw [go_lt _ (by omega)] at this
    simpa using this
  constructor
  · rw [List.pairwise_append, List.pairwise_append]
    refine ⟨⟨s1.sublist (List.take_sublist _ _), List.pairwise_singleton _ _, fun y hy z hz => ?_⟩, s1.sublist (List.drop_sublist _ _), fun y hy z hz => ?_⟩
    · rw [List.mem_singleton.1 hz]; exact m1 y hy
    · rcases List.mem_append.1 hy with hy | hy
      · exact (m1 y hy).trans (m2 z hz).le
      · rw [List.mem_singleton.1 hy]; exact (m2 z hz).le
  · intro q
    rw [List.filter_append, s2 q]
    conv => lhs; rw [← List.take_append_drop at' X]
    simp only [List.filter_append, List.append_assoc]
    congr 1
    by_cases c : kf q x = true
    · have : (X.drop at').filter (kf q) = [] := by
        rw [List.filter_eq_nil_iff]
        intro y hy hk
        have h1 := m2 y hy
        have k1 := (kf_iff _ _).1 c
        have k2 := (kf_iff _ _).1 hk
        unfold Lt2 at h1
        omega
      rw [this]; simp
    · have : [x].filter (kf q) = [] := by rw [List.filter_cons_of_neg c]; rfl
      rw [this]; simp

theorem rows_take (l : List Odr) (n : Nat) : (rows l).take n = rows (l.take n) := by simp [rows]
theorem rows_drop (l : List Odr) (n : Nat) : (rows l).drop n = rows (l.drop n) := by simp [rows]

theorem plan6_call (os : List Odr) (g0 : G) (r : Rul) (hl : r.ticks.length < 1000000) (hn : os.length ≤ 1000000) (h : Heap) : CallW Try.prog 19 [.sl 6 (rows os) g0, .agg (rcs r)] h
    (fun v h' => ∃ gone g g', v = .tup [.sl 6 (rows (os.filter (fun o => whyO o r == 0))) g, .sl 6 (rows gone) g'] ∧ Sorted (os.filter (fun o => whyO o r != 0)) gone ∧ h.Sub h') := by
  refine CallW.body mix f19_cf Try.func19 (by rw [Try.ntmps19]; simp) ?_
  rw [f19_entry, f19_n_wp]
  refine ⟨rfl, ?_⟩
  rw [f19_n11_eq, wpA_seq, f19_n110_wp, f19_n11010_eq]
  refine wpA_loopH (σ := Nat × G × List Odr × G) (fun s => f19_n110100_F (rows os) g0 (rows ((os.take s.1).filter (fun o => whyO o r == 0))) s.2.1 (rows s.2.2.1) s.2.2.2 s.1 (rcs r)) (fun s => os.length - s.1)
    (fun s h' => s.1 ≤ os.length ∧ Can s.2.1 6 ((os.take s.1).filter (fun o => whyO o r == 0)).length h' ∧ Sorted ((os.take s.1).filter (fun o => whyO o r != 0)) s.2.2.1 ∧ s.2.2.1.length ≤ s.1 ∧ ∀ l o, h l = some o → h' l = some o ∧ s.2.1 ≠ .own l)
    (0, .full, [], .full) (by simp [f19_n110100_F, rows]) ⟨by simp, .full, ⟨List.Pairwise.nil, fun _ => rfl⟩, by simp, fun l o e => ⟨e, by simp⟩⟩ ?_
  rintro ⟨i, g, X, gX⟩ h1 ⟨g1, g2, g3, g4, g5⟩
  simp only at g1 g2 g3 g4 g5
  simp only [f19_n110100_F]
  rw [f19_n110100_wp]
  simp only [rows_len]
  by_cases d1 : i < os.length
  · rw [show decide ((i : Int) < (os.length : Int)) = true from decide_eq_true (by omega), brW_true, f19_n1101001_eq, wpA_seq, f19_n11010010_wp]
    simp only [rows_len, Int.toNat_natCast, rows_get os d1, take_ocs, take_rcs, ocs_len, rcs_len]
    refine ⟨⟨by omega, by omega⟩, by omega, by omega, ?_⟩
    refine why6_any (go os i) r hl fun h2 hs => ⟨⟨trivial, rfl⟩, ?_⟩
    have nl : ((os.take i).filter (fun o => whyO o r == 0)).length ≤ i := by have := List.length_filter_le (fun o => whyO o r == 0) (os.take i); rw [List.length_take] at this; omega
    have k2 : Can g 6 ((os.take i).filter (fun o => whyO o r == 0)).length h2 := by
      rcases g2 with e | ⟨s, e, hs2⟩
      · exact .inl e
      · exact .inr ⟨s, e, hs _ _ hs2⟩
    have k5 : ∀ l o, h l = some o → h2 l = some o ∧ g ≠ .own l := fun l o e => ⟨hs _ _ (g5 l o e).1, (g5 l o e).2⟩
    simp only [num_int]
    by_cases cw : whyO (go os i) r = 0
    · rw [show (whyO (go os i) r == 0) = true from by rw [cw]; rfl, brW_true]
      refine ⟨⟨by omega, by omega⟩, by omega, ⟨trivial, trivial⟩, by unfold mostLen; omega, ?_⟩
      refine appG_any k2 fun g' h3 q1 q2 => ?_
      rw [seqK_normal, f19_n11010011_wp]
      simp only [wadd1 i (by omega)]
      have f1 : (os.take (i + 1)).filter (fun o => whyO o r == 0) = (os.take i).filter (fun o => whyO o r == 0) ++ [go os i] := by rw [go_next _ d1, List.filter_append]; simp [cw]
      have f2 : (os.take (i + 1)).filter (fun o => whyO o r != 0) = (os.take i).filter (fun o => whyO o r != 0) := by rw [go_next _ d1, List.filter_append]; simp [cw]
      exact ⟨(i + 1, g', X, gX), by simp only [f1, rows_snoc], ⟨d1, by simp only [f1, List.length_append, List.length_singleton]; exact q1, by simp only [f2]; exact g3, by simp only; omega, fun l o e => q2 l o (k5 l o e).1 (k5 l o e).2⟩, by simp only; omega⟩
    · rw [show (whyO (go os i) r == 0) = false from by rw [beq_eq_false_iff_ne]; exact cw, brW_false, f19_n11010010011_eq, wpA_seq, f19_n110100100110_wp, f19_n1101001001100_eq]
      generalize hQ : blockK 1 (seqK _ _) = Q
      refine wpA_loop (σ := Nat) (fun k => f19_n11010010011000_F (rows os) g0 (rows ((os.take i).filter (fun o => whyO o r == 0))) g (rows X) gX i k (rcs r)) (fun _ => h2) (fun k => k) (fun k => k ≤ X.length ∧ ∀ p, k ≤ p → p < X.length → Lt2 (go os i) (go X p)) X.length
        (by simp [f19_n11010010011000_F]) rfl ⟨Nat.le_refl _, fun p _ _ => by omega⟩ ?_
      rintro k ⟨k1, k3⟩
      simp only [f19_n11010010011000_F]
      rw [f19_n11010010011000_wp]
      have fin : (k = 0 ∨ Le2 (go X (k - 1)) (go os i)) → Sorted ((os.take (i + 1)).filter (fun o => whyO o r != 0)) ((X.take k ++ [go os i]) ++ X.drop k) := fun hk => by
        have f2 : (os.take (i + 1)).filter (fun o => whyO o r != 0) = (os.take i).filter (fun o => whyO o r != 0) ++ [go os i] := by rw [go_next _ d1, List.filter_append]; simp [cw]
        rw [f2]
        refine g3.insert (fun p hp => ?_) k3 k1
        rcases hk with hk | hk
        · omega
        · have hpw := g3.1
          by_cases e : p = k - 1
          · rw [e]; exact hk
          · have := (List.pairwise_iff_getElem.1 hpw) p (k - 1) (by omega) (by omega) (by omega)
            rw [← go_lt X (by omega), ← go_lt X (by omega)] at this
            exact this.trans hk
      -- what stands behind the loop
      have leave : (k = 0 ∨ Le2 (go X (k - 1)) (go os i)) → ∀ bb : Bool, wpA Try.prog f19_cf f19_n110100100111 (f19_n110100100111_F (rows os) g0 (rows ((os.take i).filter (fun o => whyO o r == 0))) g (rows X) gX i k bb (rcs r)) h2 Q := by
        intro hk bb
        have fin := fin hk
        simp only [f19_n110100100111_F]
        rw [f19_n110100100111_wp]
        simp only [rows_len, rows_take, rows_drop, Int.toNat_natCast, show Int.toNat (0 : Int) = 0 from rfl, List.drop_zero, List.nil_append, rows_get os d1, take_ocs, ocs_len, List.take_length, List.length_append, List.length_singleton, List.length_take, List.length_drop, Nat.min_eq_left k1]
        refine ⟨by omega, by unfold mostLen; omega, ?_⟩
        refine appG_any (n := 0) .full fun ga h3 a1 a2 => ?_
        refine ⟨by omega, by omega, ⟨by simp, trivial⟩, by unfold mostLen; omega, ?_⟩
        rw [Nat.zero_add] at a1
        refine appG_any a1 fun gb h4 b1 b2 => ?_
        refine ⟨by omega, by unfold mostLen; omega, ?_⟩
        refine appG_any b1 fun gc h5 c1 c2 => ?_
        have fr : ∀ l o, h2 l = some o → h5 l = some o := fun l o e => by
          obtain ⟨e1, e2⟩ := a2 l o e (by simp)
          obtain ⟨e3, e4⟩ := b2 l o e1 e2
          exact (c2 l o e3 e4).1
        rw [← hQ]
        simp only [blockK_normal, seqK_normal]
        rw [f19_n11010011_wp]
        simp only [wadd1 i (by omega)]
        have f1 : (os.take (i + 1)).filter (fun o => whyO o r == 0) = (os.take i).filter (fun o => whyO o r == 0) := by rw [go_next _ d1, List.filter_append]; simp [cw]
        have k6 : Can g 6 ((os.take i).filter (fun o => whyO o r == 0)).length h5 := by
          rcases k2 with e | ⟨s, e, hs2⟩
          · exact .inl e
          · exact .inr ⟨s, e, fr _ _ hs2⟩
        exact ⟨(i + 1, g, (X.take k ++ [go os i]) ++ X.drop k, gc), by simp only [f1, rows_append]; rfl, ⟨d1, by simp only [f1]; exact k6, fin, by simp; omega, fun l o e => ⟨fr _ _ (k5 l o e).1, (k5 l o e).2⟩⟩, by simp only; omega⟩
      by_cases c1 : 0 < k
      · have kk : k - 1 < X.length := by omega
        simp only [show decide ((0 : Int) < (k : Int)) = true from decide_eq_true (by omega), wsub1 k (by omega) (by omega), Int.toNat_natCast, rows_get X kk, rows_get os d1, ocs_len, ocs5, ocs0, num_int, isInt_u64, rows_len]
        have step : Lt2 (go os i) (go X (k - 1)) → ∃ s', f19_n11010010011000_F (rows os) g0 (rows ((os.take i).filter (fun o => whyO o r == 0))) g (rows X) gX i (k - 1 : Nat) (rcs r) = f19_n11010010011000_F (rows os) g0 (rows ((os.take i).filter (fun o => whyO o r == 0))) g (rows X) gX i (s' : Nat) (rcs r) ∧ h2 = h2 ∧
            (s' ≤ X.length ∧ ∀ p, s' ≤ p → p < X.length → Lt2 (go os i) (go X p)) ∧ s' < k := fun hlt =>
          ⟨k - 1, rfl, rfl, ⟨by omega, fun p p1 p2 => by
            by_cases e : p = k - 1
            · rw [e]; exact hlt
            · exact k3 p (by omega) p2⟩, by omega⟩
        have nn : ((k - 1 : Nat) : Int) < (X.length : Int) := by omega
        have n0 : (0 : Int) ≤ ((k - 1 : Nat) : Int) := by omega
        have ii : (i : Int) < (os.length : Int) := by omega
        have i0 : (0 : Int) ≤ (i : Int) := by omega
        by_cases s1 : (go os i).seq < (go X (k - 1)).seq
        · simp only [decide_eq_true s1, nn, n0, ii, i0, show (5 : Nat) < 6 from by omega, show (0 : Nat) < 6 from by omega, Bool.not_true, Bool.not_false, Bool.and_true, Bool.and_false, Bool.true_and, Bool.false_and, cond_true, cond_false, brW_true, brW_false, true_and, and_true, forall_const, false_implies, Bool.false_eq_true, imp_self, and_self, Bool.true_eq_false]
          exact step (.inl s1)
        · by_cases s2 : (go X (k - 1)).seq = (go os i).seq
          · have s2' : ((go X (k - 1)).seq == (go os i).seq) = true := by rw [beq_iff_eq]; exact s2
            by_cases s3 : (go os i).id < (go X (k - 1)).id
            · simp only [decide_eq_false s1, s2', decide_eq_true s3, nn, n0, ii, i0, show (5 : Nat) < 6 from by omega, show (0 : Nat) < 6 from by omega, Bool.not_true, Bool.not_false, Bool.and_true, Bool.and_false, Bool.true_and, Bool.false_and, cond_true, cond_false, brW_true, brW_false, true_and, and_true, forall_const, false_implies, Bool.false_eq_true, imp_self, and_self, Bool.true_eq_false]
              exact step (.inr ⟨s2.symm, s3⟩)
            · simp only [decide_eq_false s1, s2', decide_eq_false s3, nn, n0, ii, i0, show (5 : Nat) < 6 from by omega, show (0 : Nat) < 6 from by omega, Bool.not_true, Bool.not_false, Bool.and_true, Bool.and_false, Bool.true_and, Bool.false_and, cond_true, cond_false, brW_true, brW_false, true_and, and_true, forall_const, false_implies, Bool.false_eq_true, imp_self, and_self, Bool.true_eq_false]
              simp only [seqK_exit, blockK_exit, if_true, seqK_normal]
              exact leave (.inr (by unfold Le2; omega)) _
          · have s2' : ((go X (k - 1)).seq == (go os i).seq) = false := by rw [beq_eq_false_iff_ne]; exact s2
            simp only [decide_eq_false s1, s2', nn, n0, ii, i0, show (5 : Nat) < 6 from by omega, show (0 : Nat) < 6 from by omega, Bool.not_true, Bool.not_false, Bool.and_true, Bool.and_false, Bool.true_and, Bool.false_and, cond_true, cond_false, brW_true, brW_false, true_and, and_true, forall_const, false_implies, Bool.false_eq_true, imp_self, and_self, Bool.true_eq_false]
            simp only [seqK_exit, blockK_exit, if_true, seqK_normal]
            exact leave (.inr (by unfold Le2; omega)) _
      · obtain rfl : k = 0 := by omega
        simp only [show decide ((0 : Int) < ((0 : Nat) : Int)) = false from rfl, Bool.not_true, Bool.not_false, Bool.and_true, Bool.and_false, Bool.true_and, Bool.false_and, cond_true, cond_false, brW_true, brW_false, true_and, and_true, forall_const, false_implies, Bool.false_eq_true, imp_self, and_self, Bool.true_eq_false]
        simp only [seqK_exit, blockK_exit, if_true, seqK_normal]
        exact leave (.inl rfl) _
  · have hi : i = os.length := by omega
    subst hi
    rw [show decide ((os.length : Int) < (os.length : Int)) = false from decide_eq_false (by omega), brW_false]
    simp only [seqK_exit, blockK_exit, if_true, seqK_normal, List.take_length] at g3 ⊢
    rw [f19_n111_wp, f19_end1]
    exact ⟨X, g, gX, rfl, g3, fun l o e => (g5 l o e).1⟩
end

section
set_option linter.all false
set_option maxRecDepth 100000
open Go Go.Proofs Jb
def f17_cf : Cfg := ⟨[8], [(0, [0]), (1, [3, 4, 5, 6, 7, 8, 9, 10]), (2, [1, 2, 11, 12, 13, 14, 15, 16, 17, 18, 19, 20, 21, 22, 23, 24, 25, 26, 27, 28, 29, 30, 31, 32, 33])]⟩
noncomputable def f17_b : Code := bodyOf Try.f17
noncomputable def f17_n : Code :=  (codeAt [] f17_b)
noncomputable def f17_n11 : Code := hide (codeAt [1, 1] f17_b)
noncomputable def f17_n110 : Code := hide (codeAt [1, 1, 0] f17_b)
noncomputable def f17_n111 : Code := hide (codeAt [1, 1, 1] f17_b)
theorem f17_entry (h : Heap) (K : V → Heap → Prop) : bodyW Try.prog f17_cf Try.f17 [] h K = wpA Try.prog f17_cf f17_n ⟨[V.undef, V.undef, V.undef, V.undef, V.undef, V.undef, V.undef, V.undef, V.undef, V.undef, V.undef, V.undef, V.undef, V.undef, V.undef, V.undef, V.undef, V.undef, V.undef, V.undef, V.undef, V.undef, V.undef, V.undef, V.undef, V.undef, V.undef, V.undef, V.undef, V.undef, V.undef, V.undef, V.undef, V.undef], []⟩ h (bodyK Try.prog Try.f17 K) := by kernel_rfl
theorem f17_n_plug : f17_n = (plug [1, 1] (codeAt [] f17_b) f17_n11) := by
  simp only [f17_n, f17_n11, hide_eq]
  try kernel_rfl
theorem f17_n_wp (h : Heap) (Q : Ex → Fr → Heap → Prop) : wpA Try.prog f17_cf f17_n ⟨[V.undef, V.undef, V.undef, V.undef, V.undef, V.undef, V.undef, V.undef, V.undef, V.undef, V.undef, V.undef, V.undef, V.undef, V.undef, V.undef, V.undef, V.undef, V.undef, V.undef, V.undef, V.undef, V.undef, V.undef, V.undef, V.undef, V.undef, V.undef, V.undef, V.undef, V.undef, V.undef, V.undef, V.undef], []⟩ h Q =
 ((True ∧ (True ∧ (True ∧ (True ∧ True)))) ∧ ((True ∧ (True ∧ (True ∧ (True ∧ True)))) ∧ (((6 = 6) ∧ ((6 = 6) ∧ True)) ∧ (AnyW Try.prog 44 [] h (fun (rz1 : V) (hz2 : Heap) =>
 ((True ∧ V.isAgg 9 rz1 = true) ∧ (AnyW Try.prog 18 [(V.sl 6 [[(V.int Go.IntKind.u64 (1 : Int)), (V.int Go.IntKind.i64 (0 : Int)), (V.int Go.IntKind.i64 (1 : Int)), (V.int Go.IntKind.i64 (12 : Int)), (V.int Go.IntKind.i64 (10 : Int)), (V.int Go.IntKind.u64 (0 : Int))], [(V.int Go.IntKind.u64 (2 : Int)), (V.int Go.IntKind.i64 (0 : Int)), (V.int Go.IntKind.i64 (1 : Int)), (V.int Go.IntKind.i64 (15 : Int)), (V.int Go.IntKind.i64 (10 : Int)), (V.int Go.IntKind.u64 (0 : Int))]] G.full), (V.agg (V.cells rz1))] hz2 (fun (rz3 : V) (hz4 : Heap) =>
 (V.isTup 2 rz3 = true ∧ (V.isRef 6 (gv (V.vs rz3) 0) = true ∧ (let lz5 : Nat := V.rl (gv (V.vs rz3) 0);
 let oz6 : Nat := V.ro (gv (V.vs rz3) 0);
 let mz7 : Nat := V.rn (gv (V.vs rz3) 0);
 let cz8 : Nat := V.rc (gv (V.vs rz3) 0);
 (V.isRef 6 (gv (V.vs rz3) 1) = true ∧ (let lz9 : Nat := V.rl (gv (V.vs rz3) 1);
 let oz10 : Nat := V.ro (gv (V.vs rz3) 1);
 let mz11 : Nat := V.rn (gv (V.vs rz3) 1);
 let cz12 : Nat := V.rc (gv (V.vs rz3) 1);
 ((true = true) ∧ ((true = true) ∧ (wpA Try.prog f17_cf f17_n11 ⟨[V.undef, (V.sref 6 lz5 oz6 mz7 cz8), (V.sref 6 lz9 oz10 mz11 cz12), V.undef, V.undef, V.undef, V.undef, V.undef, V.undef, V.undef, V.undef, V.undef, V.undef, V.undef, V.undef, V.undef, V.undef, V.undef, V.undef, V.undef, V.undef, V.undef, V.undef, V.undef, V.undef, V.undef, V.undef, V.undef, V.undef, V.undef, V.undef, V.undef, V.undef, V.undef], []⟩ hz4 Q)))))))))))))))) := wpA_at f17_n_plug (by kernel_rfl)
theorem f17_n11_eq : f17_n11 = Code.seq f17_n110 f17_n111 := by
  simp only [f17_n11, f17_n110, f17_n111, hide_eq]
  kernel_rfl
def f17_n11_F (l0 : Nat) (o1 : Nat) (n2 : Nat) (c3 : Nat) (l4 : Nat) (o5 : Nat) (n6 : Nat) (c7 : Nat) : Fr := ⟨[V.undef, (V.sref 6 l0 o1 n2 c3), (V.sref 6 l4 o5 n6 c7), V.undef, V.undef, V.undef, V.undef, V.undef, V.undef, V.undef, V.undef, V.undef, V.undef, V.undef, V.undef, V.undef, V.undef, V.undef, V.undef, V.undef, V.undef, V.undef, V.undef, V.undef, V.undef, V.undef, V.undef, V.undef, V.undef, V.undef, V.undef, V.undef, V.undef, V.undef], []⟩
theorem f17_n110_plug : f17_n110 = (codeAt [1, 1, 0] f17_b) := by
  simp only [f17_n110, hide_eq]
  try kernel_rfl
theorem f17_n110_wp (l0 : Nat) (o1 : Nat) (n2 : Nat) (c3 : Nat) (l4 : Nat) (o5 : Nat) (n6 : Nat) (c7 : Nat) (h : Heap) (Q : Ex → Fr → Heap → Prop) : wpA Try.prog f17_cf f17_n110 ⟨[V.undef, (V.sref 6 l0 o1 n2 c3), (V.sref 6 l4 o5 n6 c7), V.undef, V.undef, V.undef, V.undef, V.undef, V.undef, V.undef, V.undef, V.undef, V.undef, V.undef, V.undef, V.undef, V.undef, V.undef, V.undef, V.undef, V.undef, V.undef, V.undef, V.undef, V.undef, V.undef, V.undef, V.undef, V.undef, V.undef, V.undef, V.undef, V.undef, V.undef], []⟩ h Q =
 (let bz13 : Bool := ((n2 : Int) == (1 : Int));
 ((bz13 = true → bz13 = true) ∧ ((bz13 = true → (0 ≤ (0 : Int) ∧ (0 : Int) < n2)) ∧ ((bz13 = true → bz13 = true) ∧ ((bz13 = true → bz13 = true) ∧ ((bz13 = true → (((o1 + 0) + 0) < (List.length (cellsAt h l0)) ∧ V.isInt Go.IntKind.u64 (gv (cellsAt h l0) ((o1 + 0) + 0)) = true)) ∧ (let iz14 : Int := (V.num (gv (cellsAt h l0) ((o1 + 0) + 0)));
 ((bz13 = true → bz13 = true) ∧ (((bz13 = true → bz13 = true) ∧ True) ∧ (let bz15 : Bool := (cond bz13 (iz14 == (2 : Int)) false);
 ((bz15 = true → bz15 = true) ∧ ((bz15 = true → bz15 = true) ∧ (let bz16 : Bool := ((n6 : Int) == (1 : Int));
 (((bz15 = true → bz15 = true) ∧ True) ∧ (((cond bz15 bz16 false) = true → (cond bz15 bz16 false) = true) ∧ (((cond bz15 bz16 false) = true → (0 ≤ (0 : Int) ∧ (0 : Int) < n6)) ∧ (((cond bz15 bz16 false) = true → (cond bz15 bz16 false) = true) ∧ (((cond bz15 bz16 false) = true → ((o5 + 0) + 6 ≤ (List.length (cellsAt h l4)))) ∧ (let cz17 : List V := (List.take 6 (List.drop (o5 + 0) (cellsAt h l4)));
 (brW (cond bz15 bz16 false)
 (AnyW Try.prog 44 [] h (fun (rz18 : V) (hz19 : Heap) =>
 ((True ∧ V.isAgg 9 rz18 = true) ∧ ((((cond bz15 bz16 false) = true → ((o5 + 0) + 6 ≤ (List.length (cellsAt hz19 l4)))) ∧ (V.opt (cond bz15 bz16 false) (V.agg (List.take 6 (List.drop (o5 + 0) (cellsAt hz19 l4))))) = (V.opt (cond bz15 bz16 false) (V.agg cz17))) ∧ (let kz20 : Int → Heap → Prop := fun (xz21 : Int) (hz22 : Heap) =>
 (((cond bz15 bz16 false) = true → (cond bz15 bz16 false) = true) ∧ ((((cond bz15 bz16 false) = true → (cond bz15 bz16 false) = true) ∧ True) ∧ (let bz23 : Bool := (cond (cond bz15 bz16 false) (xz21 == (40 : Int)) false);
 (Q Ex.normal ⟨[(V.bool bz23), V.undef, V.undef, V.undef, V.undef, V.undef, V.undef, V.undef, V.undef, V.undef, V.undef, V.undef, V.undef, V.undef, V.undef, V.undef, V.undef, V.undef, V.undef, V.undef, V.undef, V.undef, V.undef, V.undef, V.undef, V.undef, V.undef, V.undef, V.undef, V.undef, V.undef, V.undef, V.undef, V.undef], []⟩ hz22))));
 brW (cond bz15 bz16 false)
 (((cond bz15 bz16 false) = true) ∧ (AnyW Try.prog 22 [(V.agg cz17), (V.agg (V.cells rz18))] hz19 (fun (rz24 : V) (hz25 : Heap) =>
 ((True ∧ V.isInt Go.IntKind.i64 rz24 = true) ∧ (kz20 (V.num rz24) hz25)))))
 (kz20 (0 : Int) hz19))))))
 ((((cond bz15 bz16 false) = true → ((o5 + 0) + 6 ≤ (List.length (cellsAt h l4)))) ∧ (V.opt (cond bz15 bz16 false) (V.agg (List.take 6 (List.drop (o5 + 0) (cellsAt h l4))))) = (V.opt (cond bz15 bz16 false) (V.agg cz17))) ∧ (let kz26 : Int → Heap → Prop := fun (xz27 : Int) (hz28 : Heap) =>
 (((cond bz15 bz16 false) = true → (cond bz15 bz16 false) = true) ∧ ((((cond bz15 bz16 false) = true → (cond bz15 bz16 false) = true) ∧ True) ∧ (let bz29 : Bool := (cond (cond bz15 bz16 false) (xz27 == (40 : Int)) false);
 (Q Ex.normal ⟨[(V.bool bz29), V.undef, V.undef, V.undef, V.undef, V.undef, V.undef, V.undef, V.undef, V.undef, V.undef, V.undef, V.undef, V.undef, V.undef, V.undef, V.undef, V.undef, V.undef, V.undef, V.undef, V.undef, V.undef, V.undef, V.undef, V.undef, V.undef, V.undef, V.undef, V.undef, V.undef, V.undef, V.undef, V.undef], []⟩ hz28))));
 brW (cond bz15 bz16 false)
 (((cond bz15 bz16 false) = true) ∧ (AnyW Try.prog 22 [(V.agg cz17), V.undef] h (fun (rz30 : V) (hz31 : Heap) =>
 ((True ∧ V.isInt Go.IntKind.i64 rz30 = true) ∧ (kz26 (V.num rz30) hz31)))))
 (kz26 (0 : Int) h))))))))))))))))))))))) := wpA_at f17_n110_plug (by kernel_rfl)
theorem f17_n111_plug : f17_n111 = (codeAt [1, 1, 1] f17_b) := by
  simp only [f17_n111, hide_eq]
  try kernel_rfl
theorem f17_n111_wp (b0 : Bool) (h : Heap) (Q : Ex → Fr → Heap → Prop) : wpA Try.prog f17_cf f17_n111 ⟨[(V.bool b0), V.undef, V.undef, V.undef, V.undef, V.undef, V.undef, V.undef, V.undef, V.undef, V.undef, V.undef, V.undef, V.undef, V.undef, V.undef, V.undef, V.undef, V.undef, V.undef, V.undef, V.undef, V.undef, V.undef, V.undef, V.undef, V.undef, V.undef, V.undef, V.undef, V.undef, V.undef, V.undef, V.undef], []⟩ h Q =
 (Q Ex.ret ⟨[(V.bool b0), V.undef, V.undef, V.undef, V.undef, V.undef, V.undef, V.undef, V.undef, V.undef, V.undef, V.undef, V.undef, V.undef, V.undef, V.undef, V.undef, V.undef, V.undef, V.undef, V.undef, V.undef, V.undef, V.undef, V.undef, V.undef, V.undef, V.undef, V.undef, V.undef, V.undef, V.undef, V.undef, V.undef], []⟩ h) := wpA_at f17_n111_plug (by kernel_rfl)
theorem f17_end1 (b0 : Bool) (h : Heap) (K : V → Heap → Prop) : bodyK Try.prog Try.f17 K Ex.ret ⟨[(V.bool b0), V.undef, V.undef, V.undef, V.undef, V.undef, V.undef, V.undef, V.undef, V.undef, V.undef, V.undef, V.undef, V.undef, V.undef, V.undef, V.undef, V.undef, V.undef, V.undef, V.undef, V.undef, V.undef, V.undef, V.undef, V.undef, V.undef, V.undef, V.undef, V.undef, V.undef, V.undef, V.undef, V.undef], []⟩ h = (K (V.bool b0) h) := by kernel_rfl
end
