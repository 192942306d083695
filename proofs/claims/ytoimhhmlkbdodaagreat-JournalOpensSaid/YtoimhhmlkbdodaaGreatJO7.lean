/- Proved here: of JO7, that what the Go functions of this part compute is as their contracts say (texts Pj, Ja, Jb1, Jc, Jd, Je, Jf, Jg, Jh, Ji, Jk, Jl, Jm, Jj), for every input; no condition beyond those that each theorem states. -/
import Derived.Test.YtoimhhmlkbdodaaGreatJO6
import Derived.KernelRfl
import Derived.Test.YtoimhhmlkbdodaaGreatProg
set_option linter.all false
section
/- The program's own choice of orders. -/
namespace J
open Go Go.Proofs Jb Js
set_option maxRecDepth 100000
theorem mix : Tryz.prog.follows .mixedOrders = true := by kernel_rfl
end J
end

section
/- Readers of bytes. -/
namespace J
open Go Go.Proofs Jb Js
set_option maxRecDepth 100000
set_option maxHeartbeats 4000000
theorem c179 {args : List V} {h : Heap} {K : V → Heap → Prop} (hn : Nat.ble args.length Tryz.f179.ntmps = true) (e : Nx (bodyS Tryz.prog ⟨[], [], false⟩ Tryz.f179 args h K)) : CallW Tryz.prog 179 args h K := CallW.go mix _ Tryz.func179 (Nat.le_of_ble_eq_true hn) rfl e
theorem n179 : enters Tryz.prog 179 = true := by kernel_rfl
theorem c154 {args : List V} {h : Heap} {K : V → Heap → Prop} (hn : Nat.ble args.length Tryz.f154.ntmps = true) (e : Nx (bodyS Tryz.prog ⟨[5], [], false⟩ Tryz.f154 args h K)) : CallW Tryz.prog 154 args h K := CallW.go mix _ Tryz.func154 (Nat.le_of_ble_eq_true hn) rfl e
theorem n154 : enters Tryz.prog 154 = true := by kernel_rfl
theorem i154 {args : List V} {h : Heap} {K : V → Heap → Prop} (hn : Nat.ble args.length Tryz.f154.ntmps = true) (e : Nx (bodyS Tryz.prog ⟨[5], [], false⟩ Tryz.f154 args h K)) : CallS Tryz.prog 154 args h K := ⟨AnyW.call n154 (c154 hn e)⟩
theorem c180 {args : List V} {h : Heap} {K : V → Heap → Prop} (hn : Nat.ble args.length Tryz.f180.ntmps = true) (e : Nx (bodyS Tryz.prog ⟨[], [], false⟩ Tryz.f180 args h K)) : CallW Tryz.prog 180 args h K := CallW.go mix _ Tryz.func180 (Nat.le_of_ble_eq_true hn) rfl e
theorem n180 : enters Tryz.prog 180 = true := by kernel_rfl
theorem c156 {args : List V} {h : Heap} {K : V → Heap → Prop} (hn : Nat.ble args.length Tryz.f156.ntmps = true) (e : Nx (bodyS Tryz.prog ⟨[], [], false⟩ Tryz.f156 args h K)) : CallW Tryz.prog 156 args h K := CallW.go mix _ Tryz.func156 (Nat.le_of_ble_eq_true hn) rfl e
theorem n156 : enters Tryz.prog 156 = true := by kernel_rfl
theorem i156 {args : List V} {h : Heap} {K : V → Heap → Prop} (hn : Nat.ble args.length Tryz.f156.ntmps = true) (e : Nx (bodyS Tryz.prog ⟨[], [], false⟩ Tryz.f156 args h K)) : CallS Tryz.prog 156 args h K := ⟨AnyW.call n156 (c156 hn e)⟩
theorem c157 {args : List V} {h : Heap} {K : V → Heap → Prop} (hn : Nat.ble args.length Tryz.f157.ntmps = true) (e : Nx (bodyS Tryz.prog ⟨[], [], false⟩ Tryz.f157 args h K)) : CallW Tryz.prog 157 args h K := CallW.go mix _ Tryz.func157 (Nat.le_of_ble_eq_true hn) rfl e
theorem n157 : enters Tryz.prog 157 = true := by kernel_rfl
theorem i157 {args : List V} {h : Heap} {K : V → Heap → Prop} (hn : Nat.ble args.length Tryz.f157.ntmps = true) (e : Nx (bodyS Tryz.prog ⟨[], [], false⟩ Tryz.f157 args h K)) : CallS Tryz.prog 157 args h K := ⟨AnyW.call n157 (c157 hn e)⟩
theorem c160 {args : List V} {h : Heap} {K : V → Heap → Prop} (hn : Nat.ble args.length Tryz.f160.ntmps = true) (e : Nx (bodyS Tryz.prog ⟨[], [], false⟩ Tryz.f160 args h K)) : CallW Tryz.prog 160 args h K := CallW.go mix _ Tryz.func160 (Nat.le_of_ble_eq_true hn) rfl e
theorem n160 : enters Tryz.prog 160 = true := by kernel_rfl
theorem c155 {args : List V} {h : Heap} {K : V → Heap → Prop} (hn : Nat.ble args.length Tryz.f155.ntmps = true) (e : Nx (bodyS Tryz.prog ⟨[], [(3, [5, 8, 3, 47], []), (13, [5, 8, 3, 47], [])], false⟩ Tryz.f155 args h K)) : CallW Tryz.prog 155 args h K := CallW.go mix _ Tryz.func155 (Nat.le_of_ble_eq_true hn) rfl e
theorem n155 : enters Tryz.prog 155 = true := by kernel_rfl
theorem c159 {args : List V} {h : Heap} {K : V → Heap → Prop} (hn : Nat.ble args.length Tryz.f159.ntmps = true) (e : Nx (bodyS Tryz.prog ⟨[], [], false⟩ Tryz.f159 args h K)) : CallW Tryz.prog 159 args h K := CallW.go mix _ Tryz.func159 (Nat.le_of_ble_eq_true hn) rfl e
theorem n159 : enters Tryz.prog 159 = true := by kernel_rfl
theorem c178 {args : List V} {h : Heap} {K : V → Heap → Prop} (hn : Nat.ble args.length Tryz.f178.ntmps = true) (e : Nx (bodyS Tryz.prog ⟨[2, 5], [], false⟩ Tryz.f178 args h K)) : CallW Tryz.prog 178 args h K := CallW.go mix _ Tryz.func178 (Nat.le_of_ble_eq_true hn) rfl e
theorem n178 : enters Tryz.prog 178 = true := by kernel_rfl
theorem c187 {args : List V} {h : Heap} {K : V → Heap → Prop} (hn : Nat.ble args.length Tryz.f187.ntmps = true) (e : Nx (bodyS Tryz.prog ⟨[], [], false⟩ Tryz.f187 args h K)) : CallW Tryz.prog 187 args h K := CallW.go mix _ Tryz.func187 (Nat.le_of_ble_eq_true hn) rfl e
theorem n187 : enters Tryz.prog 187 = true := by kernel_rfl
theorem i187 {args : List V} {h : Heap} {K : V → Heap → Prop} (hn : Nat.ble args.length Tryz.f187.ntmps = true) (e : Nx (bodyS Tryz.prog ⟨[], [], false⟩ Tryz.f187 args h K)) : CallS Tryz.prog 187 args h K := ⟨AnyW.call n187 (c187 hn e)⟩

def natGo (most : Nat) : List UInt8 → Nat → Nat → Option (Nat × Nat)
  | [], _, _ => none
  | c :: r, i, n =>
    if 10 ≤ i ∨ (i = 9 ∧ 2 ≤ c.toNat % 128) then none
    else if 128 ≤ c.toNat then natGo most r (i + 1) (n + c.toNat % 128 * 128 ^ i)
    else if (c.toNat = 0 ∧ 0 < i) ∨ most < n + c.toNat % 128 * 128 ^ i then none
    else some (n + c.toNat % 128 * 128 ^ i, i + 1)
def rdNat (most : Nat) (b : List UInt8) : Option (Nat × Nat) := natGo most b 0 0
def natV (most : Nat) (b : List UInt8) : Nat := match rdNat most b with | some (n, _) => n | none => 0
def natR (most : Nat) (b : List UInt8) : List UInt8 := match rdNat most b with | some (_, k) => b.drop k | none => []
def natG (most : Nat) (b : List UInt8) : G := match rdNat most b with | some _ => .no | none => .full
def natX (most : Nat) (b : List UInt8) : Bool := match rdNat most b with | some _ => false | none => true

def len7 (x : Nat) : Nat := if x = 0 then 0 else x.log2 + 1
theorem len7_le : ∀ x < 128, len7 x ≤ 7 ∧ (2 ≤ len7 x ↔ 2 ≤ x) := by decide
theorem len64 (x : Nat) (hx : x < 128) {h : Heap} : Gives Tryz.prog 179 [.int .u64 x] h (.int .i64 (len7 x)) h := by
  refine c179 rfl ?_
  repeat' (first | ((with_reducible apply Nx.mk); conv => whnf) | ((with_reducible first | apply brS_i | apply spB_i) <;> intro c <;> (try exact absurd c (by decide)) <;> (try simp only [decide_eq_true_eq, decide_eq_false_iff_not, beq_iff_eq, bne_iff_ne, Bool.not_eq_true', Bool.not_eq_false', beq_eq_false_iff_ne, Bool.not_true, Bool.not_false, reduceCtorEq, ne_eq, bne_eq_false_iff_eq, Int.not_lt, Int.not_le, Decidable.not_not] at c) <;> (try (exfalso; omega))) | ((with_reducible apply Wr.i); (next => first | exact wrap_u8 (by omega) (by omega) | fail)) | fail)
  clear c
  refine At.i rfl (show x < 256 from by omega) ?_
  refine Nx.mk ?_
  conv => whnf
  refine Nm.i (y := ((len7 x : Nat) : Int)) ?_ ?_
  · congr 1; revert x; decide
  · have := len7_le x hx
    repeat' (first | ((with_reducible apply Nx.mk); conv => whnf) | ((with_reducible apply Wr.i); (next => first | exact wrap_i64z (by omega) (by omega) | exact wrap_i64 (by omega) (by omega) | fail)) | fail)
    refine Js.Fin.mk ⟨?_, by (repeat (first | exact Heap.sub_rfl _ | fail))⟩
    exact .rfl _

theorem fail_g {p : Nat} {a b : V} {h : Heap} (hp : h p = some (.cells [a, b])) : Gives Tryz.prog 180 [.ptr p 0] h (.tup []) (h.upd p (.cells [.sl 1 [] .full, .bool true])) := by
  refine c180 rfl ?_
  repeat' (first | ((with_reducible apply Nx.mk); conv => whnf) | ((with_reducible apply RdH.i); (next => ((repeat (first | with_reducible assumption | exact hp_same _ _ _ | fail)); (first | done | fail)))) | ((with_reducible first | apply brS_i | apply spB_i) <;> intro c <;> (try exact absurd c (by decide)) <;> (try simp only [decide_eq_true_eq, decide_eq_false_iff_not, beq_iff_eq, bne_iff_ne, Bool.not_eq_true', Bool.not_eq_false', beq_eq_false_iff_ne, Bool.not_true, Bool.not_false, reduceCtorEq, ne_eq, bne_eq_false_iff_eq, Int.not_lt, Int.not_le, Decidable.not_not] at c) <;> (try (exfalso; omega))) | ((with_reducible apply Up.i); (next => first | exact upd_upd _ _ _ _ | rfl | fail)) | fail)
  refine Js.Fin.mk ⟨?_, by (repeat (first | exact Heap.sub_rfl _ | fail))⟩
  exact .rfl _

theorem bat_lt (b : List UInt8) (i : Nat) : bat b i < 256 := UInt8.toNat_lt _
theorem low7 (x : Nat) (hx : x < 256) : IntKind.u8.wrap ((BitVec.ofInt IntKind.u8.bits (x : Int) &&& ~~~BitVec.ofInt IntKind.u8.bits 128).toNat : Nat) = ((x % 128 : Nat) : Int) := by revert x; decide
theorem top1 (x : Nat) (hx : x < 256) : IntKind.u8.wrap ((BitVec.ofInt IntKind.u8.bits (x : Int) &&& BitVec.ofInt IntKind.u8.bits 128).toNat : Nat) = ((x / 128 * 128 : Nat) : Int) := by revert x; decide

theorem pow128 (i : Nat) : (128 : Nat) ^ i = 2 ^ (7 * i) := by rw [Nat.pow_mul]
theorem small7 {x i : Nat} (h1 : i ≤ 9) (h2 : i = 9 → x < 2) (h3 : x < 128) : x * 128 ^ i + 128 ^ i ≤ 18446744073709551616 := by
  have : i = 0 ∨ i = 1 ∨ i = 2 ∨ i = 3 ∨ i = 4 ∨ i = 5 ∨ i = 6 ∨ i = 7 ∨ i = 8 ∨ i = 9 := by omega
  rcases this with rfl | rfl | rfl | rfl | rfl | rfl | rfl | rfl | rfl | rfl <;> simp <;> omega
theorem shl7 {x i : Nat} (h1 : i ≤ 9) (h2 : i = 9 → x < 2) (h3 : x < 128) : IntKind.u64.wrap ((x : Int) * 2 ^ min (Int.toNat (7 * (i : Int))) IntKind.u64.bits) = ((x * 128 ^ i : Nat) : Int) := by
  have e : min (Int.toNat (7 * (i : Int))) IntKind.u64.bits = 7 * i := by
    have : IntKind.u64.bits = 64 := rfl
    omega
  have hs := small7 h1 h2 h3
  have e2 : (x : Int) * 2 ^ (7 * i) = ((x * 128 ^ i : Nat) : Int) := by rw [pow128]; simp
  rw [e, e2]
  have hp : 0 < 128 ^ i := Nat.pow_pos (by omega)
  generalize x * 128 ^ i = q at *
  exact wrap_u64 (by omega) (by omega)
theorem or7 {n x i : Nat} (hn : n < 128 ^ i) (h1 : i ≤ 9) (h2 : i = 9 → x < 2) (h3 : x < 128) :
    IntKind.u64.wrap ((BitVec.ofInt IntKind.u64.bits (n : Int) ||| BitVec.ofInt IntKind.u64.bits ((x * 128 ^ i : Nat) : Int)).toNat : Nat) = ((n + x * 128 ^ i : Nat) : Int) := by
  have hs := small7 h1 h2 h3
  have e : (BitVec.ofInt IntKind.u64.bits (n : Int) ||| BitVec.ofInt IntKind.u64.bits ((x * 128 ^ i : Nat) : Int)).toNat = n + x * 128 ^ i := by
    have b : IntKind.u64.bits = 64 := rfl
    rw [b, BitVec.toNat_or, BitVec.ofInt_natCast, BitVec.ofInt_natCast, BitVec.toNat_ofNat, BitVec.toNat_ofNat, Nat.mod_eq_of_lt (by omega), Nat.mod_eq_of_lt (by omega)]
    rw [pow128] at hn ⊢
    have := Nat.two_pow_add_eq_or_of_lt hn x
    rw [Nat.or_comm, Nat.mul_comm x, ← this]
    omega
  rw [e]
  have hp : 0 < 128 ^ i := Nat.pow_pos (by omega)
  generalize x * 128 ^ i = q at *
  exact wrap_u64 (by omega) (by omega)

theorem natGo_some {most : Nat} : ∀ {l : List UInt8} {i n : Nat} {m k : Nat}, natGo most l i n = some (m, k) → k ≤ i + l.length
  | [], _, _, _, _, e => by simp [natGo] at e
  | c :: r, i, n, m, k, e => by
    simp only [natGo] at e
    split at e
    · cases e
    · split at e
      · have := natGo_some e; simp only [List.length_cons]; omega
      · split at e
        · cases e
        · cases e; simp only [List.length_cons]; omega

theorem lt7 {n x i : Nat} (h : n < 128 ^ i) (hx : x < 128) : n + x * 128 ^ i < 128 ^ (i + 1) := by
  rw [Nat.pow_succ]
  have : x * 128 ^ i ≤ 127 * 128 ^ i := Nat.mul_le_mul_right _ (by omega)
  omega

theorem natGo_at {most : Nat} {b : List UInt8} {i n : Nat} (hi : i < b.length) : natGo most (b.drop i) i n = (if 10 ≤ i ∨ (i = 9 ∧ 2 ≤ bat b i % 128) then none
    else if 128 ≤ bat b i then natGo most (b.drop (i + 1)) (i + 1) (n + bat b i % 128 * 128 ^ i)
    else if (bat b i = 0 ∧ 0 < i) ∨ most < n + bat b i % 128 * 128 ^ i then none
    else some (n + bat b i % 128 * 128 ^ i, i + 1)) := by
  have e : bat b i = (b[i]).toNat := by simp [bat, hi]
  rw [List.drop_eq_getElem_cons hi, e]
  rfl
theorem nat_none {most : Nat} {b : List UInt8} (e : natGo most b 0 0 = none) : natV most b = 0 ∧ natR most b = [] ∧ natG most b = .full ∧ natX most b = true := by
  simp [natV, natR, natG, natX, rdNat, e]
theorem nat_some {most : Nat} {b : List UInt8} {n k : Nat} (e : natGo most b 0 0 = some (n, k)) : natV most b = n ∧ natR most b = b.drop k ∧ natG most b = .no ∧ natX most b = false := by
  simp [natV, natR, natG, natX, rdNat, e]

theorem nat_g (b : List UInt8) (g : G) (bad : Bool) {p : Nat} {most : Nat} {h : Heap} (hp : h p = some (.cells [.sl 1 (bs b) g, .bool bad])) (hm : most < 18446744073709551616) (hb : b.length < 4294967296) :
    Gives Tryz.prog 155 [.ptr p 0, .int .u64 most] h (.int .u64 (natV most b)) (h.upd p (.cells [.sl 1 (bs (natR most b)) (natG most b), .bool (bad || natX most b)])) := by
  refine c155 rfl ?_
  repeat' (first | ((with_reducible apply Nx.mk); conv => whnf) | ((with_reducible apply RdC.i); (next => ((repeat (first | with_reducible assumption | fail)); (first | done | fail))); (next => first | rfl | fail)) | ((with_reducible first | apply brS_i | apply spB_i) <;> intro c <;> (try exact absurd c (by decide)) <;> (try simp only [decide_eq_true_eq, decide_eq_false_iff_not, beq_iff_eq, bne_iff_ne, Bool.not_eq_true', Bool.not_eq_false', beq_eq_false_iff_ne, Bool.not_true, Bool.not_false, reduceCtorEq, ne_eq, bne_eq_false_iff_eq, Int.not_lt, Int.not_le, Decidable.not_not] at c) <;> (try (exfalso; omega))) | ((with_reducible apply Nm.i); (next => first | with_reducible exact bs_len _ | fail)) | fail)
  refine loopS (σ := Nat × Nat) (fun s => frm 63 [(0, .ptr p 0), (1, .int .u64 most), (4, .int .u64 s.2), (13, .sl 1 (bs b) g), (14, .int .i64 b.length), (15, .int .i64 s.1)]) (fun _ => []) (fun s => b.length - s.1)
    (fun s h' => h' = h ∧ s.1 ≤ b.length ∧ s.1 ≤ 10 ∧ s.2 < 128 ^ s.1 ∧ natGo most b 0 0 = natGo most (b.drop s.1) s.1 s.2) (0, 0) rfl ⟨rfl, by omega, by omega, by simp, by simp⟩ ?_
  rintro ⟨i, n⟩ _ ⟨rfl, h1, h2, h3, h4⟩
  simp only at h1 h2 h3 h4 ⊢
  have q2 := bat_lt b i
  have q1 := len7_le (bat b i % 128) (by omega)
  repeat' (first | ((with_reducible apply Nx.mk); conv => whnf) | ((with_reducible apply RdC.i); (next => ((repeat (first | with_reducible assumption | fail)); (first | done | fail))); (next => first | rfl | fail)) | ((with_reducible apply RdV.i); (next => first | rfl | fail)) | ((with_reducible apply RdH.i); (next => ((repeat (first | with_reducible assumption | fail)); (first | done | fail)))) | ((with_reducible first | apply brS_i | apply spB_i) <;> intro c <;> (try exact absurd c (by decide)) <;> (try simp only [decide_eq_true_eq, decide_eq_false_iff_not, beq_iff_eq, bne_iff_ne, Bool.not_eq_true', Bool.not_eq_false', beq_eq_false_iff_ne, Bool.not_true, Bool.not_false, reduceCtorEq, ne_eq, bne_eq_false_iff_eq, Int.not_lt, Int.not_le, Decidable.not_not] at c) <;> (try (exfalso; omega))) | ((with_reducible apply RdE.i); (next => first | with_reducible rfl | fail); (next => first | with_reducible exact bs_at (by omega) | fail)) | ((with_reducible apply Nm.i); (next => first | with_reducible exact bs_len _ | with_reducible exact low7 _ (bat_lt _ _) | with_reducible exact top1 _ (bat_lt _ _) | with_reducible exact shl7 (by omega) (by omega) (by omega) | with_reducible exact or7 (by assumption) (by omega) (by omega) (by omega) | fail)) | ((with_reducible apply Wr.i); (next => first | with_reducible exact wn_addl (by omega) | exact wrap_i64 (by omega) (by omega) | exact wrap_u64 (by omega) (by omega) | fail)) | ((with_reducible apply Part.i); (next => first | with_reducible rfl | fail); (next => first | with_reducible rfl | fail); (next => omega); (next => first | omega | fail); (next => first | with_reducible exact bs_to _ _ | fail)) | ((with_reducible apply Up.i); (next => first | rfl | fail)) | ((with_reducible apply HN.i); (next => first | rfl | fail)) | refine CallS.gives n179 (len64 _ (by omega)) ?_ | refine CallS.gives n180 (fail_g (by ((repeat (first | with_reducible assumption | fail)); (first | done | fail)))) ?_ | with_reducible apply And.intro | with_reducible intro _ | omega | fail)
  all_goals first
    | omega
    | (rw [natGo_at (by omega)] at h4
       repeat' split at h4
       all_goals first
         | (exfalso; omega)
         | (obtain ⟨e1, e2, e3, e4⟩ := nat_none h4; refine Js.Fin.mk ⟨by rw [e1]; exact .rfl _, ?_⟩; rw [e2, e3, e4, Bool.or_true]; (repeat (first | exact Heap.sub_rfl _ | fail)))
         | (obtain ⟨e1, e2, e3, e4⟩ := nat_some h4; refine Js.Fin.mk ⟨by rw [e1]; exact .rfl _, ?_⟩; rw [e2, e3, e4, Bool.or_false]; (repeat (first | exact Heap.sub_rfl _ | fail)))
         | exact ⟨(i + 1, n + bat b i % 128 * 128 ^ i), rfl, ⟨rfl, by omega, by omega, lt7 h3 (by omega), h4⟩, by omega⟩)
    | (rw [List.drop_eq_nil_of_le (by omega)] at h4
       obtain ⟨e1, e2, e3, e4⟩ := nat_none h4; refine Js.Fin.mk ⟨by rw [e1]; exact .rfl _, ?_⟩; rw [e2, e3, e4, Bool.or_true]; (repeat (first | exact Heap.sub_rfl _ | fail)))
end J
end

section
/- Readers of bytes: the reference's; flags, texts, ends. -/
namespace J
open Go Go.Proofs Jb Js
set_option maxRecDepth 100000
set_option maxHeartbeats 4000000
theorem c152 {args : List V} {h : Heap} {K : V → Heap → Prop} (hn : Nat.ble args.length Tryz.f152.ntmps = true) (e : Nx (bodyS Tryz.prog ⟨[], [], false⟩ Tryz.f152 args h K)) : CallW Tryz.prog 152 args h K := CallW.go mix _ Tryz.func152 (Nat.le_of_ble_eq_true hn) rfl e
theorem n152 : enters Tryz.prog 152 = true := by kernel_rfl
theorem c110 {args : List V} {h : Heap} {K : V → Heap → Prop} (hn : Nat.ble args.length Tryz.f110.ntmps = true) (e : Nx (bodyS Tryz.prog ⟨[], [(3, [4, 1, 3, 68], []), (5, [4, 1, 3, 68], [])], false⟩ Tryz.f110 args h K)) : CallW Tryz.prog 110 args h K := CallW.go mix _ Tryz.func110 (Nat.le_of_ble_eq_true hn) rfl e
theorem n110 : enters Tryz.prog 110 = true := by kernel_rfl
theorem c151 {args : List V} {h : Heap} {K : V → Heap → Prop} (hn : Nat.ble args.length Tryz.f151.ntmps = true) (e : Nx (bodyS Tryz.prog ⟨[], [], false⟩ Tryz.f151 args h K)) : CallW Tryz.prog 151 args h K := CallW.go mix _ Tryz.func151 (Nat.le_of_ble_eq_true hn) rfl e
theorem n151 : enters Tryz.prog 151 = true := by kernel_rfl
theorem c111 {args : List V} {h : Heap} {K : V → Heap → Prop} (hn : Nat.ble args.length Tryz.f111.ntmps = true) (e : Nx (bodyS Tryz.prog ⟨[], [], false⟩ Tryz.f111 args h K)) : CallW Tryz.prog 111 args h K := CallW.go mix _ Tryz.func111 (Nat.le_of_ble_eq_true hn) rfl e
theorem n111 : enters Tryz.prog 111 = true := by kernel_rfl
theorem c112 {args : List V} {h : Heap} {K : V → Heap → Prop} (hn : Nat.ble args.length Tryz.f112.ntmps = true) (e : Nx (bodyS Tryz.prog ⟨[], [], false⟩ Tryz.f112 args h K)) : CallW Tryz.prog 112 args h K := CallW.go mix _ Tryz.func112 (Nat.le_of_ble_eq_true hn) rfl e
theorem n112 : enters Tryz.prog 112 = true := by kernel_rfl
theorem rfail_g {p : Nat} {a b : V} {h : Heap} (hp : h p = some (.cells [a, b])) : Gives Tryz.prog 152 [.ptr p 0] h (.int .u64 0) (h.upd p (.cells [.sl 1 [] .full, .bool true])) := by
  refine c152 rfl ?_
  repeat' (first | ((with_reducible apply Nx.mk); conv => whnf) | ((with_reducible apply RdH.i); (next => ((repeat (first | with_reducible assumption | exact hp_same _ _ _ | fail)); (first | done | fail)))) | ((with_reducible apply Up.i); (next => first | exact upd_upd _ _ _ _ | rfl | fail)) | fail)
  refine Js.Fin.mk ⟨?_, by (repeat (first | exact Heap.sub_rfl _ | fail))⟩
  exact .rfl _

theorem rem128 (x : Nat) : Int.tmod (x : Int) 128 = ((x % 128 : Nat) : Int) := by rw [Int.tmod_eq_emod_of_nonneg (by omega)]; rfl

theorem mul7 {x i : Nat} (h1 : i ≤ 9) (h2 : i = 9 → x < 2) (h3 : x < 128) : IntKind.u64.wrap ((x : Int) * ((128 ^ i : Nat) : Int)) = ((x * 128 ^ i : Nat) : Int) := by
  have hs := small7 h1 h2 h3
  have hp : 0 < 128 ^ i := Nat.pow_pos (by omega)
  rw [show (x : Int) * ((128 ^ i : Nat) : Int) = ((x * 128 ^ i : Nat) : Int) from by simp]
  generalize x * 128 ^ i = q at *
  exact wrap_u64 (by omega) (by omega)
theorem add7 {n x i : Nat} (hn : n < 128 ^ i) (h1 : i ≤ 9) (h2 : i = 9 → x < 2) (h3 : x < 128) : IntKind.u64.wrap ((n : Int) + ((x * 128 ^ i : Nat) : Int)) = ((n + x * 128 ^ i : Nat) : Int) := by
  have hs := small7 h1 h2 h3
  generalize x * 128 ^ i = q at *
  exact wrap_u64 (by omega) (by omega)
theorem unit7 {i : Nat} (h : i + 1 ≤ 9) : IntKind.u64.wrap (((128 ^ i : Nat) : Int) * 128) = ((128 ^ (i + 1) : Nat) : Int) := by
  have hs := small7 (x := 1) (i := i + 1) (by omega) (fun h => by omega) (by omega)
  have hp : 0 < 128 ^ i := Nat.pow_pos (by omega)
  rw [Nat.pow_succ] at hs ⊢
  generalize 128 ^ i = q at *
  exact wrap_u64 (by omega) (by omega)

theorem rnat_g (b : List UInt8) (g : G) (bad : Bool) {p : Nat} {most : Nat} {h : Heap} (hp : h p = some (.cells [.sl 1 (bs b) g, .bool bad])) (hm : most < 18446744073709551616) (hb : b.length < 4294967296) :
    Gives Tryz.prog 110 [.ptr p 0, .int .u64 most] h (.int .u64 (natV most b)) (h.upd p (.cells [.sl 1 (bs (natR most b)) (natG most b), .bool (bad || natX most b)])) := by
  refine c110 rfl ?_
  repeat' (first | ((with_reducible apply Nx.mk); conv => whnf) | fail)
  refine loopS (σ := Nat × Nat × Int) (fun s => frm 76 [(0, .ptr p 0), (1, .int .u64 most), (5, .int .u64 s.2.1), (6, .int .u64 s.2.2), (7, .int .i64 s.1)]) (fun _ => []) (fun s => b.length - s.1)
    (fun s h' => h' = h ∧ s.1 ≤ b.length ∧ s.1 ≤ 10 ∧ s.2.1 < 128 ^ s.1 ∧ (s.1 ≤ 9 → s.2.2 = (128 ^ s.1 : Nat)) ∧ natGo most b 0 0 = natGo most (b.drop s.1) s.1 s.2.1) (0, 0, 1) rfl ⟨rfl, by omega, by omega, by simp, by simp, by simp⟩ ?_
  rintro ⟨i, n, u⟩ _ ⟨rfl, h1, h2, h3, h5, h4⟩
  simp only at h1 h2 h3 h4 h5 ⊢
  have q2 := bat_lt b i
  by_cases hi : i ≤ 9
  · obtain rfl : u = ((128 ^ i : Nat) : Int) := h5 hi
    repeat' (first | ((with_reducible apply Nx.mk); conv => whnf) | ((with_reducible apply RdC.i); (next => ((repeat (first | with_reducible assumption | fail)); (first | done | fail))); (next => first | rfl | fail)) | ((with_reducible apply RdV.i); (next => first | rfl | fail)) | ((with_reducible apply RdH.i); (next => ((repeat (first | with_reducible assumption | fail)); (first | done | fail)))) | ((with_reducible first | apply brS_i | apply spB_i) <;> intro c <;> (try exact absurd c (by decide)) <;> (try simp only [decide_eq_true_eq, decide_eq_false_iff_not, beq_iff_eq, bne_iff_ne, Bool.not_eq_true', Bool.not_eq_false', beq_eq_false_iff_ne, Bool.not_true, Bool.not_false, reduceCtorEq, ne_eq, bne_eq_false_iff_eq, Int.not_lt, Int.not_le, Decidable.not_not] at c) <;> (try (exfalso; omega))) | ((with_reducible apply RdE.i); (next => first | with_reducible rfl | fail); (next => first | with_reducible exact bs_at (by omega) | fail)) | ((with_reducible apply Nm.i); (next => first | with_reducible exact bs_len _ | with_reducible exact rem128 _ | fail)) | ((with_reducible apply Wr.i); (next => first | with_reducible exact mul7 (by omega) (by omega) (by omega) | with_reducible exact add7 (by assumption) (by omega) (by omega) (by omega) | with_reducible exact wn_addl (by omega) | exact wrap_u64 (by omega) (by omega) | rfl | fail)) | ((with_reducible apply Part.i); (next => first | with_reducible rfl | fail); (next => first | with_reducible rfl | fail); (next => omega); (next => first | omega | fail); (next => first | with_reducible exact bs_to _ _ | fail)) | ((with_reducible apply Up.i); (next => first | rfl | fail)) | ((with_reducible apply HN.i); (next => first | rfl | fail)) | refine CallS.gives n152 (rfail_g (by ((repeat (first | with_reducible assumption | fail)); (first | done | fail)))) ?_ | with_reducible apply And.intro | with_reducible intro _ | decide | fail)
    all_goals first
      | omega
      | (rw [natGo_at (by omega)] at h4
         repeat' split at h4
         all_goals first
           | (exfalso; omega)
           | (obtain ⟨e1, e2, e3, e4⟩ := nat_none h4; refine Js.Fin.mk ⟨by rw [e1]; exact .rfl _, ?_⟩; rw [e2, e3, e4, Bool.or_true]; (repeat (first | exact Heap.sub_rfl _ | fail)))
           | (obtain ⟨e1, e2, e3, e4⟩ := nat_some h4; refine Js.Fin.mk ⟨by rw [e1]; exact .rfl _, ?_⟩; rw [e2, e3, e4, Bool.or_false]; (repeat (first | exact Heap.sub_rfl _ | fail)))
           | exact ⟨(i + 1, n + bat b i % 128 * 128 ^ i, _), rfl, ⟨rfl, by omega, by omega, lt7 h3 (by omega), fun h => unit7 h, h4⟩, by simp only; omega⟩)
      | (rw [List.drop_eq_nil_of_le (by omega)] at h4
         obtain ⟨e1, e2, e3, e4⟩ := nat_none h4; refine Js.Fin.mk ⟨by rw [e1]; exact .rfl _, ?_⟩; rw [e2, e3, e4, Bool.or_true]; (repeat (first | exact Heap.sub_rfl _ | fail)))
  · have e : natGo most (b.drop i) i n = none := by
      cases b.drop i with
      | nil => rfl
      | cons c r => unfold natGo; rw [if_pos (by omega)]
    rw [e] at h4
    repeat' (first | ((with_reducible apply Nx.mk); conv => whnf) | ((with_reducible apply RdC.i); (next => ((repeat (first | with_reducible assumption | fail)); (first | done | fail))); (next => first | rfl | fail)) | ((with_reducible first | apply brS_i | apply spB_i) <;> intro c <;> (try exact absurd c (by decide)) <;> (try simp only [decide_eq_true_eq, decide_eq_false_iff_not, beq_iff_eq, bne_iff_ne, Bool.not_eq_true', Bool.not_eq_false', beq_eq_false_iff_ne, Bool.not_true, Bool.not_false, reduceCtorEq, ne_eq, bne_eq_false_iff_eq, Int.not_lt, Int.not_le, Decidable.not_not] at c) <;> (try (exfalso; omega))) | ((with_reducible apply Nm.i); (next => first | with_reducible exact bs_len _ | fail)) | ((with_reducible apply HN.i); (next => first | rfl | fail)) | refine CallS.gives n152 (rfail_g (by ((repeat (first | with_reducible assumption | fail)); (first | done | fail)))) ?_ | with_reducible intro _ | fail)
    all_goals (obtain ⟨e1, e2, e3, e4⟩ := nat_none h4; refine Js.Fin.mk ⟨by rw [e1]; exact .rfl _, ?_⟩; rw [e2, e3, e4, Bool.or_true]; (repeat (first | exact Heap.sub_rfl _ | fail)))

def flagV (b : List UInt8) : Bool := ((natV 1 b : Int) == 1)
theorem flag_g (b : List UInt8) (g : G) (bad : Bool) {p : Nat} {h : Heap} (hp : h p = some (.cells [.sl 1 (bs b) g, .bool bad])) (hb : b.length < 4294967296) :
    Gives Tryz.prog 159 [.ptr p 0] h (.bool (flagV b)) (h.upd p (.cells [.sl 1 (bs (natR 1 b)) (natG 1 b), .bool (bad || natX 1 b)])) := by
  refine c159 rfl ?_
  repeat' (first | ((with_reducible apply Nx.mk); conv => whnf) | ((with_reducible apply HN.i); (next => first | rfl | fail)) | refine CallS.gives n155 (nat_g _ _ _ (most := 1) (by ((repeat (first | with_reducible assumption | fail)); (first | done | fail))) (by omega) (by assumption)) ?_ | fail)
  refine Js.Fin.mk ⟨?_, by (repeat (first | exact Heap.sub_rfl _ | fail))⟩
  exact .rfl _
theorem rflag_g (b : List UInt8) (g : G) (bad : Bool) {p : Nat} {h : Heap} (hp : h p = some (.cells [.sl 1 (bs b) g, .bool bad])) (hb : b.length < 4294967296) :
    Gives Tryz.prog 151 [.ptr p 0] h (.bool (flagV b)) (h.upd p (.cells [.sl 1 (bs (natR 1 b)) (natG 1 b), .bool (bad || natX 1 b)])) := by
  refine c151 rfl ?_
  repeat' (first | ((with_reducible apply Nx.mk); conv => whnf) | ((with_reducible apply HN.i); (next => first | rfl | fail)) | refine CallS.gives n110 (rnat_g _ _ _ (most := 1) (by ((repeat (first | with_reducible assumption | fail)); (first | done | fail))) (by omega) (by assumption)) ?_ | fail)
  refine Js.Fin.mk ⟨?_, by (repeat (first | exact Heap.sub_rfl _ | fail))⟩
  exact .rfl _

def textOk (most : Nat) (b : List UInt8) : Bool := decide (natV most b ≤ (natR most b).length)
def textV (most : Nat) (b : List UInt8) : List UInt8 := if natV most b ≤ (natR most b).length then (natR most b).take (natV most b) else []
def textR (most : Nat) (b : List UInt8) : List UInt8 := if natV most b ≤ (natR most b).length then (natR most b).drop (natV most b) else []
def textG (most : Nat) (b : List UInt8) : G := if natV most b ≤ (natR most b).length then .no else .full
def textX (most : Nat) (b : List UInt8) : Bool := natX most b || !textOk most b
theorem natR_len (most : Nat) (b : List UInt8) : (natR most b).length ≤ b.length := by
  unfold natR; split <;> simp
theorem natV_le (most : Nat) (b : List UInt8) : natV most b ≤ most := by
  have key : ∀ (l : List UInt8) (i n m k : Nat), natGo most l i n = some (m, k) → m ≤ most := by
    intro l
    induction l with
    | nil => intro i n m k e; simp [natGo] at e
    | cons c r ih =>
      intro i n m k e
      simp only [natGo] at e
      split at e
      · cases e
      · split at e
        · exact ih _ _ _ _ e
        · split at e
          · cases e
          · cases e; omega
  unfold natV
  split
  · rename_i e; exact key _ _ _ _ _ e
  · omega
theorem text_g (b : List UInt8) (g : G) (bad : Bool) {p : Nat} {most : Nat} {h : Heap} (hp : h p = some (.cells [.sl 1 (bs b) g, .bool bad])) (hb : b.length < 4294967296) (hm : most < 4294967296) :
    Gives Tryz.prog 178 [.ptr p 0, .int .i64 most] h (.str (tx (textV most b))) (h.upd p (.cells [.sl 1 (bs (textR most b)) (textG most b), .bool (bad || textX most b)])) := by
  have q1 := natR_len most b
  have q2 := natV_le most b
  refine c178 rfl ?_
  repeat' (first | ((with_reducible apply Nx.mk); conv => whnf) | ((with_reducible apply Js.Fin.mk); (with_reducible apply Nx.mk); conv => whnf) | ((with_reducible apply RdC.i); (next => ((repeat (first | exact hp_same _ _ _ | refine hp_new (by with_reducible assumption) ?_ | refine hp_ne (by first | exact (ne_has (by with_reducible assumption) (by ((repeat (first | exact has_of (by with_reducible assumption) | fail)); (first | done | fail)))).symm | fail) ?_ | fail)); (first | done | fail))); (next => first | rfl | fail)) | ((with_reducible apply RdH.i); (next => ((repeat (first | exact hp_same _ _ _ | refine hp_new (by with_reducible assumption) ?_ | fail)); (first | done | fail)))) | ((with_reducible first | apply brS_i | apply spB_i) <;> intro c <;> (try exact absurd c (by decide)) <;> (try simp only [decide_eq_true_eq, decide_eq_false_iff_not, beq_iff_eq, bne_iff_ne, Bool.not_eq_true', Bool.not_eq_false', beq_eq_false_iff_ne, Bool.not_true, Bool.not_false, reduceCtorEq, ne_eq, bne_eq_false_iff_eq, Int.not_lt, Int.not_le, Decidable.not_not] at c) <;> (try (exfalso; omega))) | ((with_reducible apply Nm.i); (next => first | with_reducible exact bs_len _ | fail)) | ((with_reducible apply Wr.i); (next => first | exact wrap_u64 (by omega) (by omega) | fail)) | ((with_reducible apply Part.i); (next => first | with_reducible exact cast_ofNat _ | with_reducible rfl | fail); (next => first | with_reducible rfl | fail); (next => omega); (next => first | omega | fail); (next => first | with_reducible exact bs_to _ _ | with_reducible exact bs_part _ _ _ | fail)) | ((with_reducible apply New.i); intro l hl) | ((with_reducible apply Up.i); (next => first | exact upd_upd _ _ _ _ | exact up_by (by first | exact (none_ne (by with_reducible assumption)).symm | fail) (upd_upd _ _ _ _) | fail)) | ((with_reducible apply HN.i); (next => first | exact up_by (by first | exact (none_ne (by with_reducible assumption)).symm | fail) (upd_upd _ _ _ _) | rfl | fail)) | ((with_reducible apply ToS.i); (next => exact bs_byte _); (next => exact bs_tx _)) | ((with_reducible apply Plan.i); (next => kernel_rfl); (next => kernel_rfl)) | refine CallS.gives n155 (nat_g _ _ _ (by ((repeat (first | with_reducible assumption | refine hp_new (by with_reducible assumption) ?_ | fail)); (first | done | fail))) (by omega) (by assumption)) ?_ | refine CallS.gives n180 (fail_g (by ((repeat (first | with_reducible assumption | exact hp_same _ _ _ | refine hp_new (by with_reducible assumption) ?_ | fail)); (first | done | fail)))) ?_ | refine i187 rfl ?_ | fail)
  all_goals trace_state
  all_goals first
    | (have ex : textOk most b = false := decide_eq_false (by omega)
       refine Js.Fin.mk ⟨by simp only [textV]; rw [if_neg (by omega)]; exact .rfl _, ?_⟩
       simp only [textR, textG, textX, ex, Bool.not_false, Bool.or_true]
       rw [if_neg (by omega), if_neg (by omega)]
       (repeat (first | exact Heap.sub_rfl _ | refine sub_same ?_ | refine sub_new (by (repeat (first | with_reducible assumption | exact none_of (none_of (by with_reducible assumption)) | refine none_up ?_ (by first | exact none_ne (by with_reducible assumption) | fail) | fail))) ?_ | fail)))
    | (have ex : textOk most b = true := decide_eq_true (by omega)
       refine Js.Fin.mk ⟨by simp only [textV]; rw [if_pos (by omega)]; exact .rfl _, ?_⟩
       simp only [textR, textG, textX, ex, Bool.not_true, Bool.or_false]
       rw [if_pos (by omega), if_pos (by omega)]
       (repeat (first | exact Heap.sub_rfl _ | refine sub_same ?_ | refine sub_new (by (repeat (first | with_reducible assumption | exact none_of (none_of (by with_reducible assumption)) | refine none_up ?_ (by first | exact none_ne (by with_reducible assumption) | fail) | fail))) ?_ | fail)))
theorem rtext_g (b : List UInt8) (g : G) (bad : Bool) {p : Nat} {most : Nat} {h : Heap} (hp : h p = some (.cells [.sl 1 (bs b) g, .bool bad])) (hb : b.length < 4294967296) (hm : most < 4294967296) :
    Gives Tryz.prog 111 [.ptr p 0, .int .i64 most] h (.str (tx (textV most b))) (h.upd p (.cells [.sl 1 (bs (textR most b)) (textG most b), .bool (bad || textX most b)])) := by
  have q1 := natR_len most b
  have q2 := natV_le most b
  refine c111 rfl ?_
  repeat' (first | ((with_reducible apply Nx.mk); conv => whnf) | ((with_reducible apply RdC.i); (next => ((repeat (first | exact hp_same _ _ _ | fail)); (first | done | fail))); (next => first | rfl | fail)) | ((with_reducible apply RdH.i); (next => ((repeat (first | exact hp_same _ _ _ | fail)); (first | done | fail)))) | ((with_reducible first | apply brS_i | apply spB_i) <;> intro c <;> (try exact absurd c (by decide)) <;> (try simp only [decide_eq_true_eq, decide_eq_false_iff_not, beq_iff_eq, bne_iff_ne, Bool.not_eq_true', Bool.not_eq_false', beq_eq_false_iff_ne, Bool.not_true, Bool.not_false, reduceCtorEq, ne_eq, bne_eq_false_iff_eq, Int.not_lt, Int.not_le, Decidable.not_not] at c) <;> (try (exfalso; omega))) | ((with_reducible apply Nm.i); (next => first | with_reducible exact bs_len _ | fail)) | ((with_reducible apply Wr.i); (next => first | exact wrap_u64 (by omega) (by omega) | fail)) | ((with_reducible apply Part.i); (next => first | with_reducible exact cast_ofNat _ | with_reducible rfl | fail); (next => first | with_reducible rfl | fail); (next => omega); (next => first | omega | fail); (next => first | with_reducible exact bs_to _ _ | with_reducible exact bs_part _ _ _ | fail)) | ((with_reducible apply Up.i); (next => first | exact upd_upd _ _ _ _ | fail)) | ((with_reducible apply HN.i); (next => first | exact upd_upd _ _ _ _ | rfl | fail)) | ((with_reducible apply ToS.i); (next => exact bs_byte _); (next => exact bs_tx _)) | refine CallS.gives n110 (rnat_g _ _ _ (by ((repeat (first | with_reducible assumption | fail)); (first | done | fail))) (by omega) (by assumption)) ?_ | refine CallS.gives n152 (rfail_g (by ((repeat (first | with_reducible assumption | exact hp_same _ _ _ | fail)); (first | done | fail)))) ?_ | fail)
  all_goals trace_state
  all_goals first
    | (have ex : textOk most b = false := decide_eq_false (by omega)
       refine Js.Fin.mk ⟨by simp only [textV]; rw [if_neg (by omega)]; exact .rfl _, ?_⟩
       simp only [textR, textG, textX, ex, Bool.not_false, Bool.or_true]
       rw [if_neg (by omega), if_neg (by omega)]
       (repeat (first | exact Heap.sub_rfl _ | fail)))
    | (have ex : textOk most b = true := decide_eq_true (by omega)
       refine Js.Fin.mk ⟨by simp only [textV]; rw [if_pos (by omega)]; exact .rfl _, ?_⟩
       simp only [textR, textG, textX, ex, Bool.not_true, Bool.or_false]
       rw [if_pos (by omega), if_pos (by omega)]
       (repeat (first | exact Heap.sub_rfl _ | fail)))
end J
end

section
/- Check sums. -/
namespace J
open Go Go.Proofs Jb Js
set_option maxRecDepth 100000
set_option maxHeartbeats 4000000
theorem c61 {args : List V} {h : Heap} {K : V → Heap → Prop} (hn : Nat.ble args.length Tryz.f61.ntmps = true) (e : Nx (bodyS Tryz.prog ⟨[], [], false⟩ Tryz.f61 args h K)) : CallW Tryz.prog 61 args h K := CallW.go mix _ Tryz.func61 (Nat.le_of_ble_eq_true hn) rfl e
theorem n61 : enters Tryz.prog 61 = true := by kernel_rfl
theorem c158 {args : List V} {h : Heap} {K : V → Heap → Prop} (hn : Nat.ble args.length Tryz.f158.ntmps = true) (e : Nx (bodyS Tryz.prog ⟨[], [], false⟩ Tryz.f158 args h K)) : CallW Tryz.prog 158 args h K := CallW.go mix _ Tryz.func158 (Nat.le_of_ble_eq_true hn) rfl e
theorem n158 : enters Tryz.prog 158 = true := by kernel_rfl
theorem c153 {args : List V} {h : Heap} {K : V → Heap → Prop} (hn : Nat.ble args.length Tryz.f153.ntmps = true) (e : Nx (bodyS Tryz.prog ⟨[], [(1, [2, 1, 1, 1, 3, 9], []), (6, [2, 1, 1, 1, 3, 9], [])], false⟩ Tryz.f153 args h K)) : CallW Tryz.prog 153 args h K := CallW.go mix _ Tryz.func153 (Nat.le_of_ble_eq_true hn) rfl e
theorem n153 : enters Tryz.prog 153 = true := by kernel_rfl
theorem c172 {args : List V} {h : Heap} {K : V → Heap → Prop} (hn : Nat.ble args.length Tryz.f172.ntmps = true) (e : Nx (bodyS Tryz.prog ⟨[], [(3, [2, 1, 2, 2, 1, 1, 1, 35], []), (7, [2, 1, 2, 2, 1, 1, 1, 35], []), (9, [0, 1, 1, 2, 1, 1, 2, 10, 3, 24], []), (15, [0, 1, 1, 2, 1, 1, 2, 10, 3, 24], [])], false⟩ Tryz.f172 args h K)) : CallW Tryz.prog 172 args h K := CallW.go mix _ Tryz.func172 (Nat.le_of_ble_eq_true hn) rfl e
theorem n172 : enters Tryz.prog 172 = true := by kernel_rfl
theorem c183 {args : List V} {h : Heap} {K : V → Heap → Prop} (hn : Nat.ble args.length Tryz.f183.ntmps = true) (e : Nx (bodyS Tryz.prog ⟨[], [(1, [2, 1, 1, 10], []), (4, [2, 1, 1, 10], [])], false⟩ Tryz.f183 args h K)) : CallW Tryz.prog 183 args h K := CallW.go mix _ Tryz.func183 (Nat.le_of_ble_eq_true hn) rfl e
theorem n183 : enters Tryz.prog 183 = true := by kernel_rfl
theorem c150 {args : List V} {h : Heap} {K : V → Heap → Prop} (hn : Nat.ble args.length Tryz.f150.ntmps = true) (e : Nx (bodyS Tryz.prog ⟨[], [(2, [2, 1, 2, 32], []), (4, [2, 1, 2, 32], []), (6, [2, 1, 4, 30], []), (8, [2, 1, 4, 30], [])], false⟩ Tryz.f150 args h K)) : CallW Tryz.prog 150 args h K := CallW.go mix _ Tryz.func150 (Nat.le_of_ble_eq_true hn) rfl e
theorem n150 : enters Tryz.prog 150 = true := by kernel_rfl
theorem c149 {args : List V} {h : Heap} {K : V → Heap → Prop} (hn : Nat.ble args.length Tryz.f149.ntmps = true) (e : Nx (bodyS Tryz.prog ⟨[], [(2, [2, 1, 2, 13], []), (4, [2, 1, 2, 13], [])], false⟩ Tryz.f149 args h K)) : CallW Tryz.prog 149 args h K := CallW.go mix _ Tryz.func149 (Nat.le_of_ble_eq_true hn) rfl e
theorem n149 : enters Tryz.prog 149 = true := by kernel_rfl
theorem c139 {args : List V} {h : Heap} {K : V → Heap → Prop} (hn : Nat.ble args.length Tryz.f139.ntmps = true) (e : Nx (bodyS Tryz.prog ⟨[], [], false⟩ Tryz.f139 args h K)) : CallW Tryz.prog 139 args h K := CallW.go mix _ Tryz.func139 (Nat.le_of_ble_eq_true hn) rfl e
theorem n139 : enters Tryz.prog 139 = true := by kernel_rfl
def u (x : BitVec 32) : Int := (x.toNat : Int)
def poly : BitVec 32 := 3988292384#32
def stp (n : BitVec 32) : BitVec 32 := n >>> 1 ^^^ (if n.getLsbD 0 then poly else 0#32)
def stps : Nat → BitVec 32 → BitVec 32
  | 0, n => n
  | k + 1, n => stps k (stp n)
def crcGo (n : BitVec 32) : List UInt8 → BitVec 32
  | [] => n
  | c :: r => crcGo (stps 8 (n ^^^ BitVec.ofNat 32 c.toNat)) r
def crc (b : List UInt8) : BitVec 32 := ~~~ (crcGo 4294967295#32 b)
theorem stp_xor (a b : BitVec 32) : stp (a ^^^ b) = stp a ^^^ stp b := by
  unfold stp
  rw [BitVec.ushiftRight_xor_distrib, BitVec.getLsbD_xor]
  generalize poly = p
  cases a.getLsbD 0 <;> cases b.getLsbD 0 <;> simp
  · rw [BitVec.xor_assoc]
  · rw [BitVec.xor_assoc, BitVec.xor_assoc]; congr 1; exact BitVec.xor_comm _ _
  · rw [BitVec.xor_assoc (a >>> 1) p]; congr 1; rw [BitVec.xor_comm (b >>> 1) p, ← BitVec.xor_assoc, BitVec.xor_self, BitVec.zero_xor]
theorem stps_xor : ∀ (k : Nat) (a b : BitVec 32), stps k (a ^^^ b) = stps k a ^^^ stps k b
  | 0, _, _ => rfl
  | k + 1, a, b => by simp only [stps]; rw [stp_xor, stps_xor k]
theorem stps_add : ∀ (k m : Nat) (a : BitVec 32), stps (k + m) a = stps m (stps k a)
  | 0, m, a => by rw [Nat.zero_add]; rfl
  | k + 1, m, a => by rw [Nat.succ_add]; simp only [stps]; exact stps_add k m _
theorem stp_even {m : BitVec 32} (h : m.getLsbD 0 = false) : stp m = m >>> 1 := by unfold stp; rw [h]; simp
theorem stps_hi (m : BitVec 32) (h : ∀ i, i < 4 → m.getLsbD i = false) : stps 4 m = m >>> 4 := by
  simp only [stps]
  rw [stp_even (h 0 (by omega)), stp_even (m := m >>> 1) (by simpa using h 1 (by omega)), stp_even (m := m >>> 1 >>> 1) (by simpa using h 2 (by omega)), stp_even (m := m >>> 1 >>> 1 >>> 1) (by simpa using h 3 (by omega))]
  simp only [← BitVec.shiftRight_add]
theorem split15 (n : BitVec 32) : n = (n &&& ~~~15#32) ^^^ (n &&& 15#32) := by
  ext i hi
  simp only [BitVec.getElem_xor, BitVec.getElem_and, BitVec.getElem_not]
  cases n[i] <;> cases (15#32)[i] <;> rfl
theorem stps4 (n : BitVec 32) : stps 4 n = n >>> 4 ^^^ stps 4 (n &&& 15#32) := by
  conv => lhs; rw [split15 n, stps_xor]
  congr 1
  rw [stps_hi]
  · ext i hi
    simp only [BitVec.getElem_ushiftRight, BitVec.getLsbD_and, BitVec.getLsbD_not]
    by_cases h : 4 + i < 32
    · have : (15#32).getLsbD (4 + i) = false := by
        rw [BitVec.getLsbD_ofNat]
        have : Nat.testBit 15 (4 + i) = false := Nat.testBit_lt_two_pow (by
          have : 2 ^ 4 ≤ 2 ^ (4 + i) := Nat.pow_le_pow_right (by omega) (by omega)
          omega)
        simp [this]
      rw [this]; simp [h]
    · have : n.getLsbD (4 + i) = false := BitVec.getLsbD_of_ge _ _ (by omega)
      simp [this]
  · intro i hi
    have : i = 0 ∨ i = 1 ∨ i = 2 ∨ i = 3 := by omega
    rcases this with rfl | rfl | rfl | rfl <;> simp
theorem nu (B : BitVec 32) : IntKind.u32.wrap ((B.toNat : Nat) : Int) = u B := wrap_u32 (by omega) (by have := B.isLt; omega)
theorem ofInt_u (a : BitVec 32) : BitVec.ofInt 32 (u a) = a := by unfold u; rw [BitVec.ofInt_natCast]; simp
theorem shr_u (a : BitVec 32) (k : Nat) (e : min (Int.toNat (k : Int)) 32 = k) : Int.fdiv (u a) (2 ^ min (Int.toNat (k : Int)) 32) = u (a >>> k) := by
  rw [e]
  unfold u
  rw [BitVec.toNat_ushiftRight, Nat.shiftRight_eq_div_pow]
  rw [Int.fdiv_eq_ediv_of_nonneg _ (by exact_mod_cast Nat.zero_le _)]
  simp
theorem shr1 (a : BitVec 32) : Int.fdiv (u a) (2 ^ min (Int.toNat 1) IntKind.u32.bits) = u (a >>> 1) := shr_u a 1 (by decide)
theorem shr4 (a : BitVec 32) : Int.fdiv (u a) (2 ^ min (Int.toNat 4) IntKind.u32.bits) = u (a >>> 4) := shr_u a 4 (by decide)
theorem shr8 (a : BitVec 32) : Int.fdiv (u a) (2 ^ min (Int.toNat 8) IntKind.u32.bits) = u (a >>> 8) := shr_u a 8 (by decide)
theorem shr16 (a : BitVec 32) : Int.fdiv (u a) (2 ^ min (Int.toNat 16) IntKind.u32.bits) = u (a >>> 16) := shr_u a 16 (by decide)
theorem shr24 (a : BitVec 32) : Int.fdiv (u a) (2 ^ min (Int.toNat 24) IntKind.u32.bits) = u (a >>> 24) := shr_u a 24 (by decide)
theorem neg1 (a : BitVec 32) : BitVec.ofInt 32 3988292384 &&& BitVec.ofInt 32 (IntKind.u32.wrap (0 - u (a &&& 1#32))) = (if a.getLsbD 0 then poly else 0#32) := by
  have h : a &&& 1#32 = if a.getLsbD 0 then 1#32 else 0#32 := by
    ext i hi
    by_cases hi0 : i = 0
    · subst hi0; cases h : a.getLsbD 0 <;> simp_all [BitVec.getLsbD_eq_getElem]
    · cases h : a.getLsbD 0 <;> simp [hi0, BitVec.getElem_one]
  rw [h]
  cases a.getLsbD 0
  · decide
  · decide

theorem xoru (a b : BitVec 32) : IntKind.u32.wrap ((BitVec.ofInt IntKind.u32.bits (u a) ^^^ BitVec.ofInt IntKind.u32.bits (u b)).toNat : Nat) = u (a ^^^ b) := by
  refine Eq.trans ?_ (nu _); exact (congrArg (fun x : BitVec 32 => IntKind.u32.wrap ((x ^^^ BitVec.ofInt 32 (u b)).toNat : Nat)) (ofInt_u a)).trans (congrArg (fun x : BitVec 32 => IntKind.u32.wrap ((a ^^^ x).toNat : Nat)) (ofInt_u b))
theorem xorc (a : BitVec 32) (c : Nat) : IntKind.u32.wrap ((BitVec.ofInt IntKind.u32.bits (u a) ^^^ BitVec.ofInt IntKind.u32.bits (c : Int)).toNat : Nat) = u (a ^^^ BitVec.ofNat 32 c) := by
  refine Eq.trans ?_ (nu _); rw [← BitVec.ofInt_natCast]; exact congrArg (fun x : BitVec 32 => IntKind.u32.wrap ((x ^^^ BitVec.ofInt 32 (c : Int)).toNat : Nat)) (ofInt_u a)
theorem and1 (a : BitVec 32) : IntKind.u32.wrap ((BitVec.ofInt IntKind.u32.bits (u a) &&& BitVec.ofInt IntKind.u32.bits 1).toNat : Nat) = u (a &&& 1#32) := by
  refine Eq.trans ?_ (nu _); exact congrArg (fun x : BitVec 32 => IntKind.u32.wrap ((x &&& 1#32).toNat : Nat)) (ofInt_u a)
theorem and15 (a : BitVec 32) : IntKind.u32.wrap ((BitVec.ofInt IntKind.u32.bits (u a) &&& BitVec.ofInt IntKind.u32.bits 15).toNat : Nat) = (((a &&& 15#32).toNat : Nat) : Int) := by
  refine Eq.trans ?_ (show u (a &&& 15#32) = _ from rfl)
  refine Eq.trans ?_ (nu _); exact congrArg (fun x : BitVec 32 => IntKind.u32.wrap ((x &&& 15#32).toNat : Nat)) (ofInt_u a)
theorem andpx (p x : Int) : IntKind.u32.wrap ((BitVec.ofInt IntKind.u32.bits p &&& BitVec.ofInt IntKind.u32.bits x).toNat : Nat) = u (BitVec.ofInt 32 p &&& BitVec.ofInt 32 x) := nu _
theorem andneg (a : BitVec 32) : IntKind.u32.wrap ((BitVec.ofInt IntKind.u32.bits 3988292384 &&& BitVec.ofInt IntKind.u32.bits (IntKind.u32.wrap (0 - u (a &&& 1#32)))).toNat : Nat) = u (if a.getLsbD 0 then poly else 0#32) :=
  (andpx 3988292384 _).trans (congrArg u (neg1 a))
theorem xornot (a : BitVec 32) : IntKind.u32.wrap ((BitVec.ofInt IntKind.u32.bits (if IntKind.u32.signed then -1 else IntKind.u32.max) ^^^ BitVec.ofInt IntKind.u32.bits (u a)).toNat : Nat) = u (~~~ a) := by
  refine Eq.trans ?_ (nu _)
  have e : BitVec.ofInt 32 (if IntKind.u32.signed then -1 else IntKind.u32.max) = BitVec.allOnes 32 := by decide
  have e2 : ~~~ a = BitVec.allOnes 32 ^^^ a := by rw [BitVec.allOnes_xor]
  rw [e2, ← e]
  exact congrArg (fun x : BitVec 32 => IntKind.u32.wrap ((BitVec.ofInt 32 (if IntKind.u32.signed then -1 else IntKind.u32.max) ^^^ x).toNat : Nat)) (ofInt_u a)

theorem bs_nil' {b : List UInt8} (h : bs b = []) : b = [] := by cases b with | nil => rfl | cons a l => simp [bs] at h
theorem clone_s (b : List UInt8) (g : G) (hb : b.length < 4294967296) {h : Heap} : GivesS Tryz.prog 61 [.sl 1 (bs b) g] h 1 (bs b) b.length := by
  refine c61 rfl ?_
  repeat' (first | ((with_reducible apply Nx.mk); conv => whnf) | ((with_reducible first | apply brS_i | apply spB_i) <;> intro c <;> (try exact absurd c (by decide)) <;> (try simp only [decide_eq_true_eq, decide_eq_false_iff_not, beq_iff_eq, bne_iff_ne, Bool.not_eq_true', Bool.not_eq_false', beq_eq_false_iff_ne, Bool.not_true, Bool.not_false, reduceCtorEq, ne_eq, bne_eq_false_iff_eq, Int.not_lt, Int.not_le, Decidable.not_not] at c) <;> (try (exfalso; omega))) | ((with_reducible apply Nm.i); (next => first | with_reducible exact bs_len _ | with_reducible exact List.length_nil | with_reducible exact List.nil_append _ | fail)) | ((with_reducible apply App.i); (next => (repeat (first | exact .full | fail))); intro g' hg') | with_reducible apply And.intro | exact trivial | with_reducible intro _ | fail)
  · rename_i bb hbb
    have : bs b = [] := Classical.byContradiction fun hn => by rw [hbb hn] at c; cases c
    obtain rfl := bs_nil' this
    exact ⟨.full, ⟨.full, by simp, by simp, by simp⟩, rfl, Heap.sub_rfl _⟩
  · unfold mostLen; omega
  · exact ⟨g', hg', rfl, by simp only [Nat.zero_add]; exact Heap.sub_rfl _⟩

theorem nibble_g (n : BitVec 32) {h : Heap} : Gives Tryz.prog 183 [.int .u32 (u n)] h (.int .u32 (u (stps 4 n))) h := by
  refine c183 rfl ?_
  repeat' (first | ((with_reducible apply Nx.mk); conv => whnf) | fail)
  refine loopS (σ := Nat × BitVec 32) (fun s => frm 14 [(0, .int .u32 (u s.2)), (3, .int .i64 s.1)]) (fun _ => []) (fun s => 4 - s.1)
    (fun s h' => h' = h ∧ s.1 ≤ 4 ∧ stps (4 - s.1) s.2 = stps 4 n) (0, n) rfl ⟨rfl, by simp, rfl⟩ ?_
  rintro ⟨i, m⟩ _ ⟨rfl, h1, h2⟩
  simp only at h1 h2 ⊢
  repeat' (first | ((with_reducible apply Nx.mk); conv => whnf) | ((with_reducible first | apply brS_i | apply spB_i) <;> intro c <;> (try exact absurd c (by decide)) <;> (try simp only [decide_eq_true_eq, decide_eq_false_iff_not, beq_iff_eq, bne_iff_ne, Bool.not_eq_true', Bool.not_eq_false', beq_eq_false_iff_ne, Bool.not_true, Bool.not_false, reduceCtorEq, ne_eq, bne_eq_false_iff_eq, Int.not_lt, Int.not_le, Decidable.not_not] at c) <;> (try (exfalso; omega))) | ((with_reducible apply Nm.i); (next => first | with_reducible exact shr1 _ | with_reducible exact and1 _ | with_reducible exact andneg _ | with_reducible exact xoru _ _ | rfl | fail)) | ((with_reducible apply Wr.i); (next => first | with_reducible exact wn_addl (by omega) | fail)) | with_reducible apply And.intro | decide | fail)
  · refine Js.Fin.mk ⟨(i + 1, stp m), ?_, ⟨rfl, by omega, ?_⟩, by simp only; omega⟩
    · rfl
    · rw [← h2, show 4 - i = (4 - (i + 1)) + 1 from by omega]; rfl
  · refine Js.Fin.mk ⟨?_, by (repeat (first | exact Heap.sub_rfl _ | fail))⟩
    obtain rfl : i = 4 := by omega
    rw [← h2]
    exact .rfl _

def tblc (i : Nat) : List V := (List.range 16).map fun k => .int .u32 (if k < i then u (stps 4 (BitVec.ofNat 32 k)) else 0)
theorem tblc_at {i k : Nat} (h : k < 16) (hi : k < i) : (tblc i)[k]? = some (.int .u32 (u (stps 4 (BitVec.ofNat 32 k)))) := by
  simp [tblc, h, hi]
theorem tblc_at0 {i k : Nat} (h : k < 16) (hi : k < i) : (tblc i)[0 + k * 1]? = some (.int .u32 (u (stps 4 (BitVec.ofNat 32 k)))) := by rw [Nat.mul_one, Nat.zero_add]; exact tblc_at h hi
theorem tblc_set {i : Nat} (h : i < 16) : (tblc i).set i (.int .u32 (u (stps 4 (BitVec.ofNat 32 i)))) = tblc (i + 1) := by
  apply List.ext_getElem
  · simp [tblc]
  · intro j h1 h2
    simp only [tblc, List.length_map, List.length_range] at h2
    rw [List.getElem_set]
    split
    · rename_i q; subst q; simp [tblc]
    · rename_i q
      simp only [tblc, List.getElem_map, List.getElem_range]
      congr 1
      by_cases hji : j < i
      · rw [if_pos hji, if_pos (by omega)]
      · rw [if_neg hji, if_neg (by omega)]

theorem u_nat {k : Nat} (h : k < 4294967296) : u (BitVec.ofNat 32 k) = (k : Int) := by unfold u; rw [BitVec.toNat_ofNat, Nat.mod_eq_of_lt h]
theorem nibble_i (k : Nat) (h : k < 16) {h' : Heap} : Gives Tryz.prog 183 [.int .u32 k] h' (.int .u32 (u (stps 4 (BitVec.ofNat 32 k)))) h' := by
  have := nibble_g (BitVec.ofNat 32 k) (h := h')
  rwa [u_nat (by omega)] at this

theorem sum_g (b : List UInt8) (g : G) (hb : b.length < 4294967296) {h : Heap} : Gives Tryz.prog 172 [.sl 1 (bs b) g] h (.int .u32 (u (crc b))) h := by
  refine c172 rfl ?_
  repeat' (first | ((with_reducible apply Nx.mk); conv => whnf) | with_reducible apply And.intro | exact trivial | fail)
  refine loopS (σ := Nat) (fun i => frm 45 [(0, .sl 1 (bs b) g), (3, .fn (.func 183) [] []), (4, .lp 4 0), (9, .int .u32 i)]) (fun i => [(4, tblc i)]) (fun i => 16 - i)
    (fun i h' => h' = h ∧ i ≤ 16) 0 rfl ⟨rfl, by simp⟩ ?_
  rintro i h ⟨rfl, h1⟩
  simp only at h1 ⊢
  repeat' (first | ((with_reducible apply Nx.mk); conv => whnf) | ((with_reducible apply At.i); (next => first | with_reducible rfl | fail); (next => first | omega | fail)) | ((with_reducible first | apply brS_i | apply spB_i) <;> intro c <;> (try exact absurd c (by decide)) <;> (try simp only [decide_eq_true_eq, decide_eq_false_iff_not, beq_iff_eq, bne_iff_ne, Bool.not_eq_true', Bool.not_eq_false', beq_eq_false_iff_ne, Bool.not_true, Bool.not_false, reduceCtorEq, ne_eq, bne_eq_false_iff_eq, Int.not_lt, Int.not_le, Decidable.not_not] at c) <;> (try (exfalso; omega))) | ((with_reducible apply Nm.i); (next => first | with_reducible exact bs_len _ | fail)) | ((with_reducible apply HN.i); (next => first | rfl | fail)) | refine CallS.gives n183 (nibble_i _ (by omega)) ?_ | fail)
  · refine wrS_i (by simp [tblc]; omega) (cs' := tblc (i + 1)) ?_ ?_
    · rw [wr_set (by simp [tblc]; omega), Nat.mul_one, Nat.zero_add]; exact tblc_set (by omega)
    · repeat' (first | ((with_reducible apply Nx.mk); conv => whnf) | ((with_reducible apply Wr.i); (next => first | exact wrap_u32 (by omega) (by omega) | fail)) | fail)
      exact ⟨i + 1, rfl, ⟨rfl, by omega⟩, by omega⟩
  · obtain rfl : i = 16 := by omega
    refine loopS (σ := Nat × BitVec 32) (fun s => frm 45 [(4, .lp 4 0), (6, .int .u32 (u s.2)), (18, .sl 1 (bs b) g), (19, .int .i64 b.length), (20, .int .i64 s.1)]) (fun _ => [(4, tblc 16)]) (fun s => b.length - s.1)
      (fun s h' => h' = h ∧ s.1 ≤ b.length ∧ crcGo 4294967295#32 b = crcGo s.2 (b.drop s.1)) (0, 4294967295#32) rfl ⟨rfl, by simp, rfl⟩ ?_
    rintro ⟨i, n⟩ h ⟨rfl, h2, h3⟩
    simp only at h2 h3 ⊢
    have q15 : ∀ m : BitVec 32, (m &&& 15#32).toNat < 16 := fun m => by rw [BitVec.toNat_and]; exact Nat.lt_of_le_of_lt Nat.and_le_right (by decide)
    have q2 := bat_lt b i
    repeat' (first | ((with_reducible apply Nx.mk); conv => whnf) | ((with_reducible apply RdV.i); (next => first | with_reducible exact tblc_at0 (q15 _) (q15 _) | rfl | fail)) | ((with_reducible apply At.i); (next => first | with_reducible rfl | fail); (next => first | solve_by_elim | fail)) | ((with_reducible first | apply brS_i | apply spB_i) <;> intro c <;> (try exact absurd c (by decide)) <;> (try simp only [decide_eq_true_eq, decide_eq_false_iff_not, beq_iff_eq, bne_iff_ne, Bool.not_eq_true', Bool.not_eq_false', beq_eq_false_iff_ne, Bool.not_true, Bool.not_false, reduceCtorEq, ne_eq, bne_eq_false_iff_eq, Int.not_lt, Int.not_le, Decidable.not_not] at c) <;> (try (exfalso; omega))) | ((with_reducible apply RdE.i); (next => first | with_reducible rfl | fail); (next => first | with_reducible exact bs_at (by omega) | fail)) | ((with_reducible apply Nm.i); (next => first | with_reducible exact xorc _ _ | with_reducible exact shr4 _ | with_reducible exact and15 _ | with_reducible exact xoru _ _ | with_reducible exact xornot _ | fail)) | ((with_reducible apply Wr.i); (next => first | with_reducible exact wn_addl (by omega) | exact wrap_u32 (by omega) (by omega) | fail)) | with_reducible apply And.intro | decide | fail)
    · refine Js.Fin.mk ⟨(i + 1, stps 8 (n ^^^ BitVec.ofNat 32 (bat b i))), ?_, ⟨rfl, by omega, ?_⟩, by simp only; omega⟩
      · have e : ∀ m : BitVec 32, m >>> 4 ^^^ stps 4 (BitVec.ofNat 32 (m &&& 15#32).toNat) = stps 4 m := fun m => by
          rw [stps4 m]; simp
        rw [e, e, ← stps_add]
        rfl
      · rw [h3, List.drop_eq_getElem_cons (by omega)]
        simp only [crcGo]
        rw [show (b[i]'(by omega)).toNat = bat b i from by simp [bat, show i < b.length from by omega]]
    · refine Js.Fin.mk ⟨?_, by (repeat (first | exact Heap.sub_rfl _ | fail))⟩
      rw [List.drop_eq_nil_of_le (by omega)] at h3
      unfold crc
      rw [h3]
      exact .rfl _
end J
end

section
/- Check sums of the reference; seals; parcels taken. -/
namespace J
open Go Go.Proofs Jb Js
set_option maxRecDepth 100000
set_option maxHeartbeats 4000000

theorem tmod_nat (x k : Nat) : Int.tmod (x : Int) (k : Int) = ((x % k : Nat) : Int) := by rw [Int.tmod_eq_emod_of_nonneg (by omega)]; rfl
theorem tm2 (x : Nat) : Int.tmod (x : Int) 2 = ((x % 2 : Nat) : Int) := tmod_nat x 2
theorem tm256 (x : Nat) : Int.tmod (x : Int) 256 = ((x % 256 : Nat) : Int) := tmod_nat x 256
theorem tdiv_nat (x k : Nat) : Int.tdiv (x : Int) (k : Int) = ((x / k : Nat) : Int) := by rw [Int.tdiv_eq_ediv_of_nonneg (by omega)]; rfl
theorem td2 {x : Nat} (h : x < 4294967296) : IntKind.u32.wrap (Int.tdiv (x : Int) 2) = ((x / 2 : Nat) : Int) := by rw [show Int.tdiv (x : Int) 2 = _ from tdiv_nat x 2]; exact wrap_u32 (by omega) (by omega)
theorem td2b {x : Nat} (h : x < 256) : IntKind.u8.wrap (Int.tdiv (x : Int) 2) = ((x / 2 : Nat) : Int) := by rw [show Int.tdiv (x : Int) 2 = _ from tdiv_nat x 2]; exact wrap_u8 (by omega) (by omega)
theorem td256 {x : Nat} (h : x < 4294967296) : IntKind.u32.wrap (Int.tdiv (x : Int) 256) = ((x / 256 : Nat) : Int) := by rw [show Int.tdiv (x : Int) 256 = _ from tdiv_nat x 256]; exact wrap_u32 (by omega) (by omega)
theorem xorpx (p x : Int) : IntKind.u32.wrap ((BitVec.ofInt IntKind.u32.bits x ^^^ BitVec.ofInt IntKind.u32.bits p).toNat : Nat) = u (BitVec.ofInt 32 x ^^^ BitVec.ofInt 32 p) := nu _
theorem xorp (m : Nat) : IntKind.u32.wrap ((BitVec.ofInt IntKind.u32.bits (m : Int) ^^^ BitVec.ofInt IntKind.u32.bits 3988292384).toNat : Nat) = (((BitVec.ofNat 32 m ^^^ poly).toNat : Nat) : Int) := by
  rw [xorpx, BitVec.ofInt_natCast]; rfl
theorem half {m : Nat} (h : m < 4294967296) : BitVec.ofNat 32 (m / 2) = BitVec.ofNat 32 m >>> 1 := by
  apply BitVec.eq_of_toNat_eq
  rw [BitVec.toNat_ushiftRight, BitVec.toNat_ofNat, BitVec.toNat_ofNat, Nat.shiftRight_eq_div_pow, Nat.mod_eq_of_lt (by omega), Nat.mod_eq_of_lt (by omega)]
theorem bit0 (m : Nat) : (BitVec.ofNat 32 m).getLsbD 0 = decide (m % 2 = 1) := by
  rw [BitVec.getLsbD_ofNat]; simp [Nat.testBit_zero]
theorem stp_two {m c : Nat} (hm : m < 4294967296) (hc : c < 256) : stp (BitVec.ofNat 32 m ^^^ BitVec.ofNat 32 c) = (if m % 2 = c % 2 then BitVec.ofNat 32 (m / 2) else BitVec.ofNat 32 (m / 2) ^^^ poly) ^^^ BitVec.ofNat 32 (c / 2) := by
  unfold stp
  rw [BitVec.ushiftRight_xor_distrib, BitVec.getLsbD_xor, bit0, bit0, half hm, half (m := c) (by omega)]
  generalize BitVec.ofNat 32 m >>> 1 = x
  generalize BitVec.ofNat 32 c >>> 1 = y
  have e1 : m % 2 = 0 ∨ m % 2 = 1 := by omega
  have e2 : c % 2 = 0 ∨ c % 2 = 1 := by omega
  rcases e1 with e1 | e1 <;> rcases e2 with e2 | e2 <;> simp [e1, e2]
  · rw [BitVec.xor_assoc, BitVec.xor_comm y, BitVec.xor_assoc]
  · rw [BitVec.xor_assoc, BitVec.xor_comm y, BitVec.xor_assoc]

theorem rsum_g (b : List UInt8) (g : G) (hb : b.length < 4294967296) {h : Heap} : Gives Tryz.prog 150 [.sl 1 (bs b) g] h (.int .u32 (u (crc b))) h := by
  refine c150 rfl ?_
  repeat' (first | ((with_reducible apply Nx.mk); conv => whnf) | fail)
  refine loopS (σ := Nat × Nat) (fun s => frm 37 [(0, .sl 1 (bs b) g), (3, .int .u32 s.2), (4, .int .i64 s.1)]) (fun _ => []) (fun s => b.length - s.1)
    (fun s h' => h' = h ∧ s.1 ≤ b.length ∧ s.2 < 4294967296 ∧ crcGo 4294967295#32 b = crcGo (BitVec.ofNat 32 s.2) (b.drop s.1)) (0, 4294967295) rfl ⟨rfl, by simp, by simp, rfl⟩ ?_
  rintro ⟨i, m0⟩ h ⟨rfl, h1, h2, h3⟩
  simp only at h1 h2 h3 ⊢
  have q2 := bat_lt b i
  repeat' (first | ((with_reducible apply Nx.mk); conv => whnf) | ((with_reducible apply RdV.i); (next => first | rfl | fail)) | ((with_reducible first | apply brS_i | apply spB_i) <;> intro c <;> (try exact absurd c (by decide)) <;> (try simp only [decide_eq_true_eq, decide_eq_false_iff_not, beq_iff_eq, bne_iff_ne, Bool.not_eq_true', Bool.not_eq_false', beq_eq_false_iff_ne, Bool.not_true, Bool.not_false, reduceCtorEq, ne_eq, bne_eq_false_iff_eq, Int.not_lt, Int.not_le, Decidable.not_not] at c) <;> (try (exfalso; omega))) | ((with_reducible apply RdE.i); (next => first | with_reducible rfl | fail); (next => first | with_reducible exact bs_at (by omega) | fail)) | ((with_reducible apply Nm.i); (next => first | with_reducible exact bs_len _ | fail)) | ((with_reducible apply Wr.i); (next => first | exact wrap_u32 (by omega) (by omega) | fail)) | fail)
  · refine loopS (σ := Nat × Nat × Nat) (fun s => frm 37 [(0, .sl 1 (bs b) g), (3, .int .u32 s.2.1), (4, .int .i64 i), (5, .int .u8 s.2.2), (6, .int .i64 s.1)]) (fun _ => []) (fun s => 8 - s.1)
      (fun s h' => h' = h ∧ s.1 ≤ 8 ∧ s.2.1 < 4294967296 ∧ s.2.2 < 2 ^ (8 - s.1) ∧ s.2.2 < 256 ∧ stps 8 (BitVec.ofNat 32 m0 ^^^ BitVec.ofNat 32 (bat b i)) = stps (8 - s.1) (BitVec.ofNat 32 s.2.1 ^^^ BitVec.ofNat 32 s.2.2)) (0, m0, bat b i) rfl ⟨rfl, by simp, h2, by simpa using q2, q2, rfl⟩ ?_
    rintro ⟨k, m, d⟩ h ⟨rfl, k1, k2, k3, k4, k5⟩
    simp only at k1 k2 k3 k4 k5 ⊢
    have half2 : k < 8 → d / 2 < 2 ^ (8 - (k + 1)) := fun hk => by
      rw [show 8 - k = (8 - (k + 1)) + 1 from by omega, Nat.pow_succ] at k3; omega
    have step : k < 8 → stps (8 - k) (BitVec.ofNat 32 m ^^^ BitVec.ofNat 32 d) = stps (8 - (k + 1)) (stp (BitVec.ofNat 32 m ^^^ BitVec.ofNat 32 d)) := fun hk => by
      rw [show 8 - k = (8 - (k + 1)) + 1 from by omega]; rfl
    repeat' (first | ((with_reducible apply Nx.mk); conv => whnf) | ((with_reducible first | apply brS_i | apply spB_i) <;> intro c <;> (try exact absurd c (by decide)) <;> (try simp only [decide_eq_true_eq, decide_eq_false_iff_not, beq_iff_eq, bne_iff_ne, Bool.not_eq_true', Bool.not_eq_false', beq_eq_false_iff_ne, Bool.not_true, Bool.not_false, reduceCtorEq, ne_eq, bne_eq_false_iff_eq, Int.not_lt, Int.not_le, Decidable.not_not] at c) <;> (try (exfalso; omega))) | ((with_reducible apply Nm.i); (next => first | with_reducible exact tm2 _ | with_reducible exact td2 (by omega) | with_reducible exact td2b (by omega) | with_reducible exact xorp _ | fail)) | ((with_reducible apply Wr.i); (next => first | with_reducible exact wn_addl (by omega) | exact wrap_u32 (by omega) (by omega) | fail)) | with_reducible apply And.intro | decide | fail)
    · refine Js.Fin.mk ⟨(k + 1, (BitVec.ofNat 32 (m / 2) ^^^ poly).toNat, d / 2), rfl, ⟨rfl, by ((try simp only); omega), BitVec.isLt _, half2 (by omega), by ((try simp only); omega), ?_⟩, by simp only; omega⟩
      rw [k5, step (by omega), stp_two k2 k4, if_neg (by omega)]
      simp only [BitVec.ofNat_toNat, BitVec.setWidth_eq]
    · refine Js.Fin.mk ⟨(k + 1, m / 2, d / 2), rfl, ⟨rfl, by ((try simp only); omega), by ((try simp only); omega), half2 (by omega), by ((try simp only); omega), ?_⟩, by simp only; omega⟩
      rw [k5, step (by omega), stp_two k2 k4, if_pos (by omega)]
    · refine Js.Fin.mk ⟨(i + 1, m), rfl, ⟨rfl, by omega, k2, ?_⟩, by simp only; omega⟩
      obtain rfl : k = 8 := by omega
      obtain rfl : d = 0 := by simpa using k3
      rw [h3, List.drop_eq_getElem_cons (by omega)]
      simp only [crcGo]
      rw [show (b[i]'(by omega)).toNat = bat b i from by simp [bat, show i < b.length from by omega], k5]
      simp [stps]
  · refine Js.Fin.mk ⟨?_, by (repeat (first | exact Heap.sub_rfl _ | fail))⟩
    rw [List.drop_eq_nil_of_le (by omega)] at h3
    have e : u (crc b) = 4294967295 - (m0 : Int) := by
      unfold crc u
      rw [h3]
      simp only [crcGo]
      rw [BitVec.toNat_not, BitVec.toNat_ofNat, Nat.mod_eq_of_lt h2]
      omega
    rw [e]
    exact .rfl _

def fourB (m : Nat) : List UInt8 := [UInt8.ofNat m, UInt8.ofNat (m / 256), UInt8.ofNat (m / 65536), UInt8.ofNat (m / 16777216)]
theorem bs_snoc (l : List UInt8) {x : Nat} (h : x < 256) : bs l ++ [[.int .u8 (x : Int)]] = bs (l ++ [UInt8.ofNat x]) := by
  simp [bs, UInt8.toNat_ofNat', Nat.mod_eq_of_lt h]
theorem four_s (m : Nat) (hm : m < 4294967296) {h : Heap} : GivesS Tryz.prog 149 [.int .u32 m] h 1 (bs (fourB m)) 4 := by
  refine c149 rfl ?_
  repeat' (first | ((with_reducible apply Nx.mk); conv => whnf) | fail)
  refine loopS (σ := Nat × Nat × List UInt8 × G) (fun s => frm 18 [(0, .int .u32 s.2.1), (3, .sl 1 (bs s.2.2.1) s.2.2.2), (4, .int .i64 s.1)]) (fun _ => []) (fun s => 4 - s.1)
    (fun s h' => GNew 1 0 h .full s.2.2.2 ∧ h' = gr h s.2.2.2 1 s.2.2.1.length ∧ s.1 ≤ 4 ∧ s.2.2.1 = (fourB m).take s.1 ∧ s.2.1 = m / 256 ^ s.1) (0, m, [], .full) rfl ⟨⟨.inl rfl, by simp, by simp, by simp⟩, rfl, by simp, by simp, by simp⟩ ?_
  rintro ⟨i, x, l, g⟩ h' ⟨h1, rfl, h2, h3, h4⟩
  simp only at h1 h2 h3 h4 ⊢
  have hx : x < 4294967296 := by rw [h4]; exact Nat.lt_of_le_of_lt (Nat.div_le_self _ _) hm
  repeat' (first | ((with_reducible apply Nx.mk); conv => whnf) | ((with_reducible first | apply brS_i | apply spB_i) <;> intro c <;> (try exact absurd c (by decide)) <;> (try simp only [decide_eq_true_eq, decide_eq_false_iff_not, beq_iff_eq, bne_iff_ne, Bool.not_eq_true', Bool.not_eq_false', beq_eq_false_iff_ne, Bool.not_true, Bool.not_false, reduceCtorEq, ne_eq, bne_eq_false_iff_eq, Int.not_lt, Int.not_le, Decidable.not_not] at c) <;> (try (exfalso; omega))) | ((with_reducible apply Nm.i); (next => first | with_reducible exact bs_len _ | with_reducible exact tm256 _ | with_reducible exact td256 (by omega) | with_reducible exact bs_snoc _ (by omega) | rfl | fail)) | ((with_reducible apply Wr.i); (next => first | with_reducible exact wn_addl (by omega) | exact wrap_u8 (by omega) (by omega) | fail)) | ((with_reducible apply App.i); (next => (repeat (first | exact can_gr (by with_reducible assumption) | fail))); intro g' hg') | with_reducible apply And.intro | exact trivial | decide | fail)
  · simp only [mostLen]; rw [h3]; simp [fourB]; omega
  · obtain ⟨a1, a2⟩ := h1.step hg' (m := l.length + 1)
    refine Js.Fin.mk ⟨(i + 1, x / 256, l ++ [UInt8.ofNat (x % 256)], g'), rfl, ⟨a1, ?_, by omega, ?_, ?_⟩, by ((try simp only); omega)⟩
    · simp only [List.length_append, List.length_singleton]; exact a2
    · simp only
      rw [h3, h4]
      have : i = 0 ∨ i = 1 ∨ i = 2 ∨ i = 3 := by omega
      rcases this with rfl | rfl | rfl | rfl <;> simp [fourB] <;> apply UInt8.toNat_inj.1 <;> simp
    · simp only; rw [h4, Nat.div_div_eq_div_mul, Nat.pow_succ]
  · obtain rfl : i = 4 := by omega
    have : l = fourB m := by rw [h3]; rfl
    subst this
    exact ⟨g, h1, rfl, Heap.sub_rfl _⟩

theorem equal_g (a b : List UInt8) (g g' : G) {h : Heap} : Gives Tryz.prog 158 [.sl 1 (bs a) g, .sl 1 (bs b) g'] h (.bool (a == b)) h := by
  refine c158 rfl ?_
  repeat' (first | ((with_reducible apply Nx.mk); conv => whnf) | ((with_reducible apply ToS.i); (next => exact bs_byte _); (next => exact bs_tx _)) | fail)
  refine Js.Fin.mk ⟨?_, by (repeat (first | exact Heap.sub_rfl _ | fail))⟩
  exact .rfl _

def openB (b : List UInt8) : Bool := b.all (fun c => decide (128 ≤ c.toNat)) && decide (b.length < 10)
theorem open_g (b : List UInt8) (g : G) (hb : b.length < 4294967296) {h : Heap} : Gives Tryz.prog 153 [.sl 1 (bs b) g] h (.bool (openB b)) h := by
  refine c153 rfl ?_
  repeat' (first | ((with_reducible apply Nx.mk); conv => whnf) | ((with_reducible apply Nm.i); (next => first | with_reducible exact bs_len _ | fail)) | fail)
  refine loopS (σ := Nat) (fun i => frm 17 [(0, .sl 1 (bs b) g), (5, .sl 1 (bs b) g), (6, .int .i64 b.length), (7, .int .i64 i)]) (fun _ => []) (fun i => b.length - i)
    (fun i h' => h' = h ∧ i ≤ b.length ∧ ∀ k, k < i → 128 ≤ bat b k) 0 rfl ⟨rfl, by simp, by simp⟩ ?_
  rintro i h ⟨rfl, h1, h2⟩
  simp only at h1 h2 ⊢
  have q2 := bat_lt b i
  repeat' (first | ((with_reducible apply Nx.mk); conv => whnf) | ((with_reducible apply RdV.i); (next => first | rfl | fail)) | ((with_reducible first | apply brS_i | apply spB_i) <;> intro c <;> (try exact absurd c (by decide)) <;> (try simp only [decide_eq_true_eq, decide_eq_false_iff_not, beq_iff_eq, bne_iff_ne, Bool.not_eq_true', Bool.not_eq_false', beq_eq_false_iff_ne, Bool.not_true, Bool.not_false, reduceCtorEq, ne_eq, bne_eq_false_iff_eq, Int.not_lt, Int.not_le, Decidable.not_not] at c) <;> (try (exfalso; omega))) | ((with_reducible apply RdE.i); (next => first | with_reducible rfl | fail); (next => first | with_reducible exact bs_at (by omega) | fail)) | ((with_reducible apply Nm.i); (next => first | with_reducible exact bs_len _ | fail)) | ((with_reducible apply Wr.i); (next => first | with_reducible exact wn_addl (by omega) | fail)) | fail)
  · refine Js.Fin.mk ⟨?_, by (repeat (first | exact Heap.sub_rfl _ | fail))⟩
    have : openB b = false := by
      unfold openB
      rw [Bool.and_eq_false_iff]
      left
      rw [List.all_eq_false]
      refine ⟨b[i]'(by omega), List.getElem_mem _, ?_⟩
      have : (b[i]'(by omega)).toNat = bat b i := by simp [bat, show i < b.length from by omega]
      rw [this]; simp; omega
    rw [this]; exact .rfl _
  · refine Js.Fin.mk ⟨i + 1, rfl, ⟨rfl, by omega, fun k hk => ?_⟩, by omega⟩
    by_cases e : k = i
    · subst e; omega
    · exact h2 k (by omega)
  · refine Js.Fin.mk ⟨?_, by (repeat (first | exact Heap.sub_rfl _ | fail))⟩
    have : openB b = decide ((b.length : Int) < 10) := by
      unfold openB
      have ha : b.all (fun c => decide (128 ≤ c.toNat)) = true := by
        rw [List.all_eq_true]
        intro c hc
        obtain ⟨k, hk, rfl⟩ := List.mem_iff_getElem.1 hc
        have := h2 k (by omega)
        simpa [bat, hk] using this
      rw [ha, Bool.true_and]
      apply decide_eq_decide.2; omega
    rw [this]; exact .rfl _
end J
end

section
/- Seals; parcels taken. -/
namespace J
open Go Go.Proofs Jb Js
set_option maxRecDepth 100000
set_option maxHeartbeats 4000000
theorem c114 {args : List V} {h : Heap} {K : V → Heap → Prop} (hn : Nat.ble args.length Tryz.f114.ntmps = true) (e : Nx (bodyS Tryz.prog ⟨[], [], false⟩ Tryz.f114 args h K)) : CallW Tryz.prog 114 args h K := CallW.go mix _ Tryz.func114 (Nat.le_of_ble_eq_true hn) rfl e
theorem n114 : enters Tryz.prog 114 = true := by kernel_rfl
theorem c107 {args : List V} {h : Heap} {K : V → Heap → Prop} (hn : Nat.ble args.length Tryz.f107.ntmps = true) (e : Nx (bodyS Tryz.prog ⟨[39], [(6, [2, 4, 2, 87], []), (8, [2, 4, 2, 87], [])], false⟩ Tryz.f107 args h K)) : CallW Tryz.prog 107 args h K := CallW.go mix _ Tryz.func107 (Nat.le_of_ble_eq_true hn) rfl e
theorem n107 : enters Tryz.prog 107 = true := by kernel_rfl
theorem wrap_b (x : Nat) : IntKind.u8.wrap (x : Int) = (((UInt8.ofNat x).toNat : Nat) : Int) := by
  simp [IntKind.wrap, IntKind.signed, IntKind.bits]
theorem b0 (x : BitVec 32) : IntKind.u8.wrap (u x) = (((UInt8.ofNat x.toNat).toNat : Nat) : Int) := wrap_b _
theorem bs_four' (l : List UInt8) (x : BitVec 32) : bs l ++ [[.int .u8 (((UInt8.ofNat x.toNat).toNat : Nat) : Int)], [.int .u8 (((UInt8.ofNat (x >>> 8).toNat).toNat : Nat) : Int)], [.int .u8 (((UInt8.ofNat (x >>> 16).toNat).toNat : Nat) : Int)], [.int .u8 (((UInt8.ofNat (x >>> 24).toNat).toNat : Nat) : Int)]] = bs (l ++ fourB x.toNat) := by
  rw [← bs_app]; simp only [BitVec.toNat_ushiftRight, Nat.shiftRight_eq_div_pow]; rfl

def crcN (b : List UInt8) : Nat := (crc b).toNat
theorem seal_g (b : List UInt8) (g : G) (hb : b.length < 4294967200) {h h0 : Heap} (c : Can g 1 b.length h) (hs : h0.Sub h) (hn : ∀ s, g = .own s → h0 s = none) :
    Gives Tryz.prog 139 [.sl 1 (bs b) g] h (.sl 1 (bs (b ++ fourB (crcN b))) .no) h0 := by
  refine c139 rfl ?_
  repeat' (first | ((with_reducible apply Nx.mk); conv => whnf) | ((with_reducible apply Nm.i); (next => first | with_reducible exact bs_len _ | with_reducible exact shr8 _ | with_reducible exact shr16 _ | with_reducible exact shr24 _ | rfl | fail)) | ((with_reducible apply Wr.i); (next => first | with_reducible exact b0 _ | fail)) | ((with_reducible apply App.i); (next => (repeat (first | with_reducible assumption | fail))); intro g' hg') | ((with_reducible apply HN.i); (next => first | rfl | fail)) | refine CallS.gives n172 (sum_g _ _ (by omega)) ?_ | with_reducible apply And.intro | exact trivial | decide | fail)
  · simp only [mostLen, List.length_cons, List.length_nil]; omega
  · refine Js.Fin.mk ⟨by rw [bs_four']; exact .sl _ _ _, sub_gr hg' (fun s e => ?_) hs⟩
    cases g with
    | full =>
      have := hg'.new rfl s e
      cases h0s : h0 s with
      | none => rfl
      | some o => rw [hs s o h0s] at this; cases this
    | own t => have := hg'.own t rfl; rw [e] at this; cases this; exact hn _ rfl
    | no => rcases c with c | ⟨t, c, _⟩ <;> cases c

def tkS (b : List UInt8) : Nat := natV 18446744073709551615 (b.drop 1)
def tkRest (b : List UInt8) : List UInt8 := natR 18446744073709551615 (b.drop 1)
def tkFrom (b : List UInt8) : Nat := b.length - (tkRest b).length
def tkE (b : List UInt8) : Nat :=
  if b = [] then 31 else if bat b 0 = 0 then 20 else if openB (b.drop 1) = true then 31 else if natX 18446744073709551615 (b.drop 1) = true then 20
  else if 65536 < tkS b then 21 else if (tkRest b).length < tkS b + 4 then 31
  else if (b.take (tkFrom b + tkS b) ++ fourB (crcN (b.take (tkFrom b + tkS b))) == b.take (tkFrom b + tkS b + 4)) = true then 0 else 30
def tkK (b : List UInt8) : Nat := if tkE b = 0 then bat b 0 else 0
def tkN (b : List UInt8) : Nat := if tkE b = 0 then tkFrom b + tkS b + 4 else 0
def tkB (b : List UInt8) : List UInt8 := if tkE b = 0 then (b.drop (tkFrom b)).take (tkS b) else []

theorem natR_suffix (most : Nat) (b : List UInt8) (h : natX most b = false) : ∃ k, k ≤ b.length ∧ natR most b = b.drop k := by
  unfold natX at h
  unfold natR
  cases e : rdNat most b with
  | none => rw [e] at h; cases h
  | some p =>
    obtain ⟨n, k⟩ := p
    have := natGo_some e
    exact ⟨k, by omega, rfl⟩

theorem tk_err {b : List UInt8} {e : Nat} (h : tkE b = e) (hn : e ≠ 0) : Weak (.tup [.int .u8 0, .sl 1 [] .full, .int .i64 0, .int .i64 e]) (.tup [.int .u8 (tkK b), .sl 1 (bs (tkB b)) .no, .int .i64 (tkN b), .int .i64 (tkE b)]) := by
  unfold tkK tkB tkN
  rw [h]
  simp only [if_neg hn]
  exact .tupL (.cons (.rfl _) (.cons (.sl _ _ _) (.cons (.rfl _) (.cons (.rfl _) .nil))))
theorem tk_ok {b : List UInt8} {g : G} (h : tkE b = 0) : Weak (.tup [.int .u8 (bat b 0), .sl 1 (bs ((b.drop (tkFrom b)).take (tkS b))) g, .int .i64 (tkFrom b + tkS b + 4 : Nat), .int .i64 0]) (.tup [.int .u8 (tkK b), .sl 1 (bs (tkB b)) .no, .int .i64 (tkN b), .int .i64 (tkE b)]) := by
  unfold tkK tkB tkN
  rw [h]
  simp only [if_true]
  exact .tupL (.cons (.rfl _) (.cons (.sl _ _ _) (.cons (.rfl _) (.cons (.rfl _) .nil))))

theorem take_g (b : List UInt8) (g : G) (hb : b.length < 4294967200) {h : Heap} :
    Gives Tryz.prog 114 [.sl 1 (bs b) g] h (.tup [.int .u8 (tkK b), .sl 1 (bs (tkB b)) .no, .int .i64 (tkN b), .int .i64 (tkE b)]) h := by
  have q1 := natR_len 18446744073709551615 (b.drop 1)
  have q2 := natV_le 18446744073709551615 (b.drop 1)
  have q3 : (b.drop 1).length = b.length - 1 := List.length_drop
  refine c114 rfl ?_
  repeat' (first | ((with_reducible apply Nx.mk); conv => whnf) | ((with_reducible apply Js.Fin.mk); (with_reducible apply Nx.mk); conv => whnf) | ((with_reducible apply RdC.i); (next => ((repeat (first | exact hp_same _ _ _ | fail)); (first | done | fail))); (next => first | rfl | fail)) | ((with_reducible apply RdV.i); (next => first | rfl | fail)) | ((with_reducible first | apply brS_i | apply spB_i) <;> intro c <;> (try exact absurd c (by decide)) <;> (try simp only [decide_eq_true_eq, decide_eq_false_iff_not, beq_iff_eq, bne_iff_ne, Bool.not_eq_true', Bool.not_eq_false', beq_eq_false_iff_ne, Bool.not_true, Bool.not_false, reduceCtorEq, ne_eq, bne_eq_false_iff_eq, Int.not_lt, Int.not_le, Decidable.not_not] at c) <;> (try (exfalso; omega))) | ((with_reducible apply RdE.i); (next => first | with_reducible exact cast_ofNat _ | fail); (next => first | with_reducible exact bs_at (by omega) | fail)) | ((with_reducible apply Nm.i); (next => first | with_reducible exact bs_len _ | fail)) | ((with_reducible apply Wr.i); (next => first | with_reducible exact wn_addl (by omega) | with_reducible exact wn_subl (by omega) (by omega) | with_reducible exact wn_add (by omega) | with_reducible exact wn_sub (by omega) (by omega) | exact wrap_i64 (by omega) (by omega) | fail)) | ((with_reducible apply Part.i); (next => first | with_reducible exact cast_ofNat _ | with_reducible rfl | fail); (next => first | with_reducible rfl | fail); (next => omega); (next => first | omega | fail); (next => first | with_reducible exact bs_to _ _ | with_reducible exact bs_part _ _ _ | fail)) | ((with_reducible apply New.i); intro l hl) | ((with_reducible apply HN.i); (next => first | exact upd_upd _ _ _ _ | rfl | fail)) | ((with_reducible apply Plan.i); (next => kernel_rfl); (next => kernel_rfl)) | refine CallS.gives n153 (open_g _ _ (by omega)) ?_ | refine i154 rfl ?_ | refine i156 rfl ?_ | refine i157 rfl ?_ | refine CallS.gives n155 (nat_g _ _ _ (most := 18446744073709551615) (by ((repeat (first | exact hp_same _ _ _ | fail)); (first | done | fail))) (by omega) (by omega)) ?_ | (refine CallS.givesS n61 (clone_s _ _ (by simp only [List.length_drop, List.length_take]; omega)) ?_; intro g' hg') | refine CallS.gives n139 (seal_g _ _ (by simp only [List.length_drop, List.length_take]; omega) (can_gr (by with_reducible assumption)) (sub_gr0 (by with_reducible assumption) (Heap.sub_rfl _)) (fun s e => GNew.new (by with_reducible assumption) rfl s e)) ?_ | refine CallS.gives n158 (equal_g _ _ _ _) ?_ | with_reducible apply And.intro | exact trivial | exact EqV.mk rfl | fail)
  all_goals (try simp only [List.drop_zero, Nat.add_sub_cancel, Bool.false_or] at c)
  all_goals (try simp only [Bool.false_or] at *)
  case' r.e.r.r.e.r.r.r.e.r.r.right.r.t.r.e.e.e.r.r.r.r.e.r.e.r.r.r.r.r.r.r.r.r.r.r.r.r.r.e.r.r.r.r.r.r.right =>
    have e0 : tkE b = 0 := by
      unfold tkE tkS tkRest tkFrom
      unfold tkRest
      repeat' split
      all_goals first | rfl | (exfalso; omega) | (exfalso; simp_all)
    have e1 : (b.drop (tkFrom b)).take (tkS b) = (b.take (b.length - (natR 18446744073709551615 (b.drop 1)).length + natV 18446744073709551615 (b.drop 1) + 4 - 4)).drop (b.length - (natR 18446744073709551615 (b.drop 1)).length) := by
      rw [Nat.add_sub_cancel, List.drop_take]
      unfold tkFrom tkRest tkS
      congr 1
      omega
    have := tk_ok (g := g') e0
    rw [e1] at this
    refine Js.Fin.mk ⟨this, by (repeat (first | exact Heap.sub_rfl _ | refine sub_gr0 (by with_reducible assumption) ?_ | refine sub_new (by (repeat (first | with_reducible assumption | fail))) ?_ | fail))⟩
  all_goals (
    refine Js.Fin.mk ⟨tk_err ?_ (by decide), by (repeat (first | exact Heap.sub_rfl _ | refine sub_new (by (repeat (first | with_reducible assumption | fail))) ?_ | fail))⟩
    unfold tkE tkS tkRest tkFrom
    unfold tkRest
    repeat' split
    all_goals first | rfl | (exfalso; omega) | (exfalso; simp_all))

theorem tx_l (l : List UInt8) : (tx l).data.toList = l := by simp [tx]
theorem openB_iff {b : List UInt8} (h : b ≠ []) : openB (b.drop 1) = true ↔ b.length < 11 ∧ ∀ k, 1 ≤ k → k < b.length → 128 ≤ bat b k := by
  have hl : b.length ≠ 0 := fun e => h (List.eq_nil_of_length_eq_zero e)
  unfold openB
  rw [Bool.and_eq_true, decide_eq_true_eq, List.all_eq_true, List.length_drop]
  constructor
  · rintro ⟨q1, q2⟩
    refine ⟨by omega, fun k k1 k2 => ?_⟩
    have := q1 b[k] (List.mem_iff_getElem.2 ⟨k - 1, by simp; omega, by simp; congr 1; omega⟩)
    simpa [bat, k2] using this
  · rintro ⟨q1, q2⟩
    refine ⟨fun c hc => ?_, by omega⟩
    obtain ⟨k, hk, rfl⟩ := List.mem_iff_getElem.1 hc
    simp only [List.length_drop] at hk
    have := q2 (1 + k) (by omega) (by omega)
    have e : 1 + k < b.length := by omega
    simp only [bat, List.getD, List.getElem?_eq_getElem e, Option.getD_some] at this
    simpa [Nat.add_comm] using this
theorem sum_iff (b f : List UInt8) (m : Nat) (h : m ≤ b.length) : (f = (b.take (m + 4)).drop m) ↔ (b.take m ++ f = b.take (m + 4)) := by
  have e : b.take (m + 4) = b.take m ++ (b.take (m + 4)).drop m := by
    conv => lhs; rw [← List.take_append_drop m (b.take (m + 4))]
    rw [List.take_take]; congr 2; omega
  constructor
  · intro q; rw [q, ← e]
  · intro q; rw [e] at q; exact List.append_cancel_left q
theorem rest_at {b : List UInt8} (h : natX 18446744073709551615 (b.drop 1) = false) (hne : b ≠ []) : tkRest b = b.drop (tkFrom b) := by
  have hl : b.length ≠ 0 := fun e => hne (List.eq_nil_of_length_eq_zero e)
  obtain ⟨k, hk, e⟩ := natR_suffix _ _ h
  unfold tkFrom tkRest
  rw [e, List.drop_drop, List.length_drop]
  rw [List.length_drop] at hk
  congr 1; omega

theorem rtake_g (b : List UInt8) (g : G) (hb : b.length < 4294967200) {h : Heap} :
    Gives Tryz.prog 107 [.sl 1 (bs b) g] h (.tup [.int .u8 (tkK b), .sl 1 (bs (tkB b)) .no, .int .i64 (tkN b), .int .i64 (tkE b)]) h := by
  have q1 := natR_len 18446744073709551615 (b.drop 1)
  have q2 := natV_le 18446744073709551615 (b.drop 1)
  have q3 : (b.drop 1).length = b.length - 1 := List.length_drop
  refine c107 rfl ?_
  repeat' (first | ((with_reducible apply Nx.mk); conv => whnf) | ((with_reducible apply RdV.i); (next => first | rfl | fail)) | ((with_reducible first | apply brS_i | apply spB_i) <;> intro c <;> (try exact absurd c (by decide)) <;> (try simp only [decide_eq_true_eq, decide_eq_false_iff_not, beq_iff_eq, bne_iff_ne, Bool.not_eq_true', Bool.not_eq_false', beq_eq_false_iff_ne, Bool.not_true, Bool.not_false, reduceCtorEq, ne_eq, bne_eq_false_iff_eq, Int.not_lt, Int.not_le, Decidable.not_not] at c) <;> (try (exfalso; omega))) | ((with_reducible apply RdE.i); (next => first | with_reducible exact cast_ofNat _ | fail); (next => first | with_reducible exact bs_at (by omega) | fail)) | ((with_reducible apply Nm.i); (next => first | with_reducible exact bs_len _ | fail)) | fail)
  · refine Js.Fin.mk ⟨tk_err (e := 31) ?_ (by decide), by (repeat (first | exact Heap.sub_rfl _ | fail))⟩
    unfold tkE; rw [if_pos (List.eq_nil_of_length_eq_zero (by omega))]
  · refine Js.Fin.mk ⟨tk_err (e := 20) ?_ (by decide), by (repeat (first | exact Heap.sub_rfl _ | fail))⟩
    unfold tkE; rw [if_neg (fun e => by subst e; simp at *), if_pos (by omega)]
  · refine loopS (σ := Nat × Bool) (fun s => frm 95 [(0, .sl 1 (bs b) g), (6, .bool s.2), (7, .int .i64 s.1)]) (fun _ => []) (fun s => b.length - s.1)
      (fun s h' => h' = h ∧ 1 ≤ s.1 ∧ s.1 ≤ b.length ∧ (s.2 = true ↔ b.length < 11 ∧ ∀ k, 1 ≤ k → k < s.1 → 128 ≤ bat b k)) (1, decide ((b.length : Int) < 11)) rfl ⟨rfl, by simp, by ((try simp only); omega), by simp only [decide_eq_true_eq]; exact ⟨fun q => ⟨by omega, fun k _ _ => by omega⟩, fun q => by omega⟩⟩ ?_
    rintro ⟨i, o⟩ h ⟨rfl, h1, h2, h3⟩
    simp only at h1 h2 h3 ⊢
    have q4 := bat_lt b i
    repeat' (first | ((with_reducible apply Nx.mk); conv => whnf) | ((with_reducible apply RdC.i); (next => ((repeat (first | exact hp_same _ _ _ | refine hp_gr (by with_reducible assumption) rfl ?_ | fail)); (first | done | fail))); (next => first | rfl | fail)) | ((with_reducible apply RdV.i); (next => first | rfl | fail)) | ((with_reducible first | apply brS_i | apply spB_i) <;> intro c <;> (try exact absurd c (by decide)) <;> (try simp only [decide_eq_true_eq, decide_eq_false_iff_not, beq_iff_eq, bne_iff_ne, Bool.not_eq_true', Bool.not_eq_false', beq_eq_false_iff_ne, Bool.not_true, Bool.not_false, reduceCtorEq, ne_eq, bne_eq_false_iff_eq, Int.not_lt, Int.not_le, Decidable.not_not] at c) <;> (try (exfalso; omega))) | ((with_reducible apply RdE.i); (next => first | with_reducible exact cast_ofNat _ | with_reducible rfl | fail); (next => first | with_reducible exact bs_at (by omega) | fail)) | ((with_reducible apply Nm.i); (next => first | with_reducible exact bs_len _ | with_reducible exact List.length_nil | with_reducible exact List.nil_append _ | fail)) | ((with_reducible apply Wr.i); (next => first | with_reducible exact wn_addl (by omega) | with_reducible exact wn_subl (by omega) (by omega) | with_reducible exact wn_add (by omega) | with_reducible exact wn_sub (by omega) (by omega) | exact wrap_i64 (by omega) (by omega) | fail)) | ((with_reducible apply Part.i); (next => first | with_reducible exact cast_ofNat _ | with_reducible rfl | fail); (next => first | with_reducible rfl | fail); (next => omega); (next => first | omega | fail); (next => first | with_reducible exact bs_to _ _ | with_reducible exact bs_part _ _ _ | fail)) | ((with_reducible apply New.i); intro l hl) | ((with_reducible apply App.i); (next => (repeat (first | exact .full | fail))); intro g' hg') | ((with_reducible apply HN.i); (next => first | exact upd_upd _ _ _ _ | rfl | fail)) | ((with_reducible apply ToS.i); (next => exact bs_byte _); (next => exact bs_tx _)) | ((with_reducible apply Plan.i); (next => kernel_rfl); (next => kernel_rfl)) | refine CallS.gives n150 (rsum_g _ _ (by simp only [List.length_drop, List.length_take]; omega)) ?_ | (refine CallS.givesS n149 (four_s _ (BitVec.isLt _)) ?_; intro g' hg') | refine CallS.gives n110 (rnat_g _ _ _ (most := 18446744073709551615) (by ((repeat (first | exact hp_same _ _ _ | fail)); (first | done | fail))) (by omega) (by omega)) ?_ | with_reducible apply And.intro | exact trivial | exact EqV.mk rfl | with_reducible intro _ | fail)
    all_goals first
      | (simp only [mostLen, List.length_drop, List.length_take, List.length_nil]; omega)
      | (refine Js.Fin.mk ⟨(i + 1, decide ((128 : Int) ≤ (bat b i : Nat))), rfl, ⟨rfl, by ((try simp only); omega), by ((try simp only); omega), ?_⟩, by ((try simp only); omega)⟩
         subst o
         have h3 := h3.1 rfl
         simp only [decide_eq_true_eq]
         refine ⟨fun q => ⟨h3.1, fun k k1 k2 => ?_⟩, fun q => by have := q.2 i h1 (by omega); omega⟩
         by_cases e : k = i
         · subst e; omega
         · exact h3.2 k k1 (by omega))
      | (refine Js.Fin.mk ⟨(i + 1, false), rfl, ⟨rfl, by ((try simp only); omega), by ((try simp only); omega), ?_⟩, by ((try simp only); omega)⟩
         subst o
         simp only [Bool.false_eq_true, false_iff]
         exact fun q => absurd (h3.2 ⟨q.1, fun k k1 k2 => q.2 k k1 (by omega)⟩) (by simp))
      | (obtain rfl : i = b.length := by omega
         have hne : b ≠ [] := fun e => by subst e; simp at *
         rw [← openB_iff hne] at h3
         first
           | (refine Js.Fin.mk ⟨tk_err (e := 31) ?_ (by decide), by (repeat (first | exact Heap.sub_rfl _ | refine sub_new (by (repeat (first | with_reducible assumption | fail))) ?_ | fail))⟩
              unfold tkE; rw [if_neg hne, if_neg (by omega), if_pos (by rw [← h3]; assumption)])
           | (have ho : ¬ openB (b.drop 1) = true := by rw [← h3]; subst o; simp
              simp only [List.drop_zero, Nat.add_sub_cancel, Bool.false_or, tx_l] at *
              try rw [sum_iff _ _ _ (by omega)] at c
              first
                | (refine Js.Fin.mk ⟨tk_err ?_ (by decide), by (repeat (first | exact Heap.sub_rfl _ | refine sub_gr0 (by with_reducible assumption) ?_ | refine sub_new (by (repeat (first | with_reducible assumption | fail))) ?_ | fail))⟩
                   unfold tkE tkS tkRest tkFrom
                   unfold tkRest
                   rw [if_neg hne, if_neg (by omega), if_neg ho]
                   repeat' split
                   all_goals first | rfl | (exfalso; omega) | (exfalso; simp_all [crcN]))
                | (have e0 : tkE b = 0 := by
                     unfold tkE tkS tkRest tkFrom
                     unfold tkRest
                     rw [if_neg hne, if_neg (by omega), if_neg ho]
                     repeat' split
                     all_goals first | rfl | (exfalso; omega) | (exfalso; simp_all [crcN])
                   have e1 := rest_at (b := b) (by assumption) hne
                   unfold tkRest at e1
                   have := tk_ok (g := g') e0
                   rw [← e1] at this
                   exact Js.Fin.mk ⟨this, by (repeat (first | exact Heap.sub_rfl _ | refine sub_gr0 (by with_reducible assumption) ?_ | refine sub_new (by (repeat (first | with_reducible assumption | fail))) ?_ | fail))⟩)
                | trace_state))
end J
end

section
/- Heads of segments. -/
namespace J
open Go Go.Proofs Jb Js
set_option maxRecDepth 100000
set_option maxHeartbeats 4000000
theorem c115 {args : List V} {h : Heap} {K : V → Heap → Prop} (hn : Nat.ble args.length Tryz.f115.ntmps = true) (e : Nx (bodyS Tryz.prog ⟨[], [], false⟩ Tryz.f115 args h K)) : CallW Tryz.prog 115 args h K := CallW.go mix _ Tryz.func115 (Nat.le_of_ble_eq_true hn) rfl e
theorem n115 : enters Tryz.prog 115 = true := by kernel_rfl
theorem c54 {args : List V} {h : Heap} {K : V → Heap → Prop} (hn : Nat.ble args.length Tryz.f54.ntmps = true) (e : Nx (bodyS Tryz.prog ⟨[], [], false⟩ Tryz.f54 args h K)) : CallW Tryz.prog 54 args h K := CallW.go mix _ Tryz.func54 (Nat.le_of_ble_eq_true hn) rfl e
theorem n54 : enters Tryz.prog 54 = true := by kernel_rfl
theorem c108 {args : List V} {h : Heap} {K : V → Heap → Prop} (hn : Nat.ble args.length Tryz.f108.ntmps = true) (e : Nx (bodyS Tryz.prog ⟨[14], [], false⟩ Tryz.f108 args h K)) : CallW Tryz.prog 108 args h K := CallW.go mix _ Tryz.func108 (Nat.le_of_ble_eq_true hn) rfl e
theorem n108 : enters Tryz.prog 108 = true := by kernel_rfl
theorem c48 {args : List V} {h : Heap} {K : V → Heap → Prop} (hn : Nat.ble args.length Tryz.f48.ntmps = true) (e : Nx (bodyS Tryz.prog ⟨[], [], false⟩ Tryz.f48 args h K)) : CallW Tryz.prog 48 args h K := CallW.go mix _ Tryz.func48 (Nat.le_of_ble_eq_true hn) rfl e
theorem n48 : enters Tryz.prog 48 = true := by kernel_rfl
def endE (bad : Bool) (b : List UInt8) : Nat := if bad = true ∨ b ≠ [] then 20 else 0
theorem end_g (b : List UInt8) (g : G) (bad : Bool) {p : Nat} {h : Heap} (hp : h p = some (.cells [.sl 1 (bs b) g, .bool bad])) : Gives Tryz.prog 160 [.ptr p 0] h (.int .i64 (endE bad b)) h := by
  refine c160 rfl ?_
  repeat' (first | ((with_reducible apply Nx.mk); conv => whnf) | ((with_reducible apply RdC.i); (next => ((repeat (first | with_reducible assumption | fail)); (first | done | fail))); (next => first | rfl | fail)) | ((with_reducible first | apply brS_i | apply spB_i) <;> intro c <;> (try exact absurd c (by decide)) <;> (try simp only [decide_eq_true_eq, decide_eq_false_iff_not, beq_iff_eq, bne_iff_ne, Bool.not_eq_true', Bool.not_eq_false', beq_eq_false_iff_ne, Bool.not_true, Bool.not_false, reduceCtorEq, ne_eq, bne_eq_false_iff_eq, Int.not_lt, Int.not_le, Decidable.not_not] at c) <;> (try (exfalso; omega))) | ((with_reducible apply Nm.i); (next => first | with_reducible exact bs_len _ | fail)) | with_reducible intro _ | fail)
  · refine Js.Fin.mk ⟨?_, by (repeat (first | exact Heap.sub_rfl _ | fail))⟩; unfold endE; rw [if_pos (.inl ‹_›)]; exact .rfl _
  · refine Js.Fin.mk ⟨?_, by (repeat (first | exact Heap.sub_rfl _ | fail))⟩; unfold endE; rw [if_pos (.inr fun e => by subst e; simp at *)]; exact .rfl _
  · refine Js.Fin.mk ⟨?_, by (repeat (first | exact Heap.sub_rfl _ | fail))⟩; unfold endE; rw [if_neg (by simp_all)]; exact .rfl _
theorem rend_g (b : List UInt8) (g : G) (bad : Bool) {p : Nat} {h : Heap} (hp : h p = some (.cells [.sl 1 (bs b) g, .bool bad])) : Gives Tryz.prog 112 [.ptr p 0] h (.int .i64 (endE bad b)) h := by
  refine c112 rfl ?_
  repeat' (first | ((with_reducible apply Nx.mk); conv => whnf) | ((with_reducible apply RdC.i); (next => ((repeat (first | with_reducible assumption | fail)); (first | done | fail))); (next => first | rfl | fail)) | ((with_reducible first | apply brS_i | apply spB_i) <;> intro c <;> (try exact absurd c (by decide)) <;> (try simp only [decide_eq_true_eq, decide_eq_false_iff_not, beq_iff_eq, bne_iff_ne, Bool.not_eq_true', Bool.not_eq_false', beq_eq_false_iff_ne, Bool.not_true, Bool.not_false, reduceCtorEq, ne_eq, bne_eq_false_iff_eq, Int.not_lt, Int.not_le, Decidable.not_not] at c) <;> (try (exfalso; omega))) | ((with_reducible apply Nm.i); (next => first | with_reducible exact bs_len _ | fail)) | with_reducible intro _ | fail)
  · refine Js.Fin.mk ⟨?_, by (repeat (first | exact Heap.sub_rfl _ | fail))⟩; unfold endE; rw [if_pos (.inl ‹_›)]; exact .rfl _
  · refine Js.Fin.mk ⟨?_, by (repeat (first | exact Heap.sub_rfl _ | fail))⟩; unfold endE; rw [if_pos (.inr fun e => by subst e; simp at *)]; exact .rfl _
  · refine Js.Fin.mk ⟨?_, by (repeat (first | exact Heap.sub_rfl _ | fail))⟩; unfold endE; rw [if_neg (by simp_all)]; exact .rfl _

def hd1 (b : List UInt8) : List UInt8 := natR 4611686018427387904 b
def hd2 (b : List UInt8) : List UInt8 := natR 1 (hd1 b)
def hd3 (b : List UInt8) : List UInt8 := natR 4611686018427387904 (hd2 b)
def hd4 (b : List UInt8) : List UInt8 := natR 4611686018427387904 (hd3 b)
def hdX (b : List UInt8) : Bool := false || natX 4611686018427387904 b || natX 1 (hd1 b) || natX 4611686018427387904 (hd2 b) || natX 4611686018427387904 (hd3 b)
def hdSer (b : List UInt8) : Nat := natV 4611686018427387904 b
def hdNew (b : List UInt8) : Bool := flagV (hd1 b)
def hdIx (b : List UInt8) : Nat := natV 4611686018427387904 (hd2 b)
def hdTm (b : List UInt8) : Nat := natV 4611686018427387904 (hd3 b)
def hdOk (k : Nat) (b : List UInt8) : Bool := (k == 1) && (((endE (hdX b) (hd4 b) : Nat) : Int) == 0)
def hdV (b : List UInt8) : V := .agg [.int .u64 (hdSer b), .bool (hdNew b), .int .u64 (hdIx b), .int .u64 (hdTm b)]
theorem hd1_len (b : List UInt8) : (hd1 b).length ≤ b.length := natR_len _ _
theorem hd2_len (b : List UInt8) : (hd2 b).length ≤ b.length := Nat.le_trans (natR_len _ _) (hd1_len b)
theorem hd3_len (b : List UInt8) : (hd3 b).length ≤ b.length := Nat.le_trans (natR_len _ _) (hd2_len b)

theorem readHead_g (k : Nat) (b : List UInt8) (g : G) (hb : b.length < 4294967200) {h : Heap} :
    Gives Tryz.prog 115 [.int .u8 k, .sl 1 (bs b) g] h (.tup [hdV b, .bool (hdOk k b)]) h := by
  have q1 := hd1_len b
  have q2 := hd2_len b
  have q3 := hd3_len b
  unfold hd1 at q1
  unfold hd2 hd1 at q2
  unfold hd3 hd2 hd1 at q3
  refine c115 rfl ?_
  repeat' (first | ((with_reducible apply Nx.mk); conv => whnf) | ((with_reducible apply Js.Fin.mk); (with_reducible apply Nx.mk); conv => whnf) | ((with_reducible first | apply brS_i | apply spB_i) <;> intro c <;> (try exact absurd c (by decide)) <;> (try simp only [decide_eq_true_eq, decide_eq_false_iff_not, beq_iff_eq, bne_iff_ne, Bool.not_eq_true', Bool.not_eq_false', beq_eq_false_iff_ne, Bool.not_true, Bool.not_false, reduceCtorEq, ne_eq, bne_eq_false_iff_eq, Int.not_lt, Int.not_le, Decidable.not_not] at c) <;> (try (exfalso; omega))) | ((with_reducible apply New.i); intro l hl) | ((with_reducible apply HN.i); (next => first | exact upd_upd _ _ _ _ | rfl | fail)) | ((with_reducible apply Plan.i); (next => kernel_rfl); (next => kernel_rfl)) | refine i154 rfl ?_ | refine CallS.gives n155 (nat_g _ _ _ (most := 4611686018427387904) (by ((repeat (first | exact hp_same _ _ _ | fail)); (first | done | fail))) (by omega) (by omega)) ?_ | refine CallS.gives n159 (flag_g _ _ _ (by ((repeat (first | exact hp_same _ _ _ | fail)); (first | done | fail))) (by omega)) ?_ | refine CallS.gives n160 (end_g _ _ _ (by ((repeat (first | exact hp_same _ _ _ | fail)); (first | done | fail)))) ?_ | with_reducible apply And.intro | exact trivial | exact EqV.mk rfl | with_reducible intro _ | exact Nat.le_of_ble_eq_true rfl | fail)
  · obtain rfl : k = 1 := by omega
    refine Js.Fin.mk ⟨?_, by (repeat (first | exact Heap.sub_rfl _ | refine sub_new (by (repeat (first | with_reducible assumption | fail))) ?_ | fail))⟩
    exact .rfl _
  · have e : hdOk k b = false := by unfold hdOk; rw [show (k == 1) = false from by simp; omega]; rfl
    refine Js.Fin.mk ⟨?_, by (repeat (first | exact Heap.sub_rfl _ | refine sub_new (by (repeat (first | with_reducible assumption | fail))) ?_ | fail))⟩
    rw [e]
    exact .rfl _
theorem rhead_g (k : Nat) (b : List UInt8) (g : G) (hb : b.length < 4294967200) {h : Heap} :
    Gives Tryz.prog 108 [.int .u8 k, .sl 1 (bs b) g] h (.tup [.int .u64 (hdSer b), .bool (hdNew b), .agg [.int .u64 (hdIx b), .int .u64 (hdTm b), .sl 1 [] .full], .bool (hdOk k b)]) h := by
  have q1 := hd1_len b
  have q2 := hd2_len b
  have q3 := hd3_len b
  unfold hd1 at q1
  unfold hd2 hd1 at q2
  unfold hd3 hd2 hd1 at q3
  refine c108 rfl ?_
  repeat' (first | ((with_reducible apply Nx.mk); conv => whnf) | ((with_reducible first | apply brS_i | apply spB_i) <;> intro c <;> (try exact absurd c (by decide)) <;> (try simp only [decide_eq_true_eq, decide_eq_false_iff_not, beq_iff_eq, bne_iff_ne, Bool.not_eq_true', Bool.not_eq_false', beq_eq_false_iff_ne, Bool.not_true, Bool.not_false, reduceCtorEq, ne_eq, bne_eq_false_iff_eq, Int.not_lt, Int.not_le, Decidable.not_not] at c) <;> (try (exfalso; omega))) | ((with_reducible apply New.i); intro l hl) | ((with_reducible apply HN.i); (next => first | exact upd_upd _ _ _ _ | rfl | fail)) | ((with_reducible apply Plan.i); (next => kernel_rfl); (next => kernel_rfl)) | refine CallS.gives n110 (rnat_g _ _ _ (most := 4611686018427387904) (by ((repeat (first | exact hp_same _ _ _ | fail)); (first | done | fail))) (by omega) (by omega)) ?_ | refine CallS.gives n151 (rflag_g _ _ _ (by ((repeat (first | exact hp_same _ _ _ | fail)); (first | done | fail))) (by omega)) ?_ | refine CallS.gives n112 (rend_g _ _ _ (by ((repeat (first | exact hp_same _ _ _ | fail)); (first | done | fail)))) ?_ | with_reducible apply And.intro | exact trivial | exact EqV.mk rfl | with_reducible intro _ | exact Nat.le_of_ble_eq_true rfl | fail)
  · obtain rfl : k = 1 := by omega
    refine Js.Fin.mk ⟨?_, by (repeat (first | exact Heap.sub_rfl _ | refine sub_new (by (repeat (first | with_reducible assumption | fail))) ?_ | fail))⟩
    exact .rfl _
  · have e : hdOk k b = false := by unfold hdOk; rw [show (k == 1) = false from by simp; omega]; rfl
    refine Js.Fin.mk ⟨?_, by (repeat (first | exact Heap.sub_rfl _ | refine sub_new (by (repeat (first | with_reducible assumption | fail))) ?_ | fail))⟩
    rw [e]
    exact .rfl _

def fhOk (b : List UInt8) : Bool := (tkE b == 0) && hdOk (tkK b) (tkB b)
theorem tkB_len (b : List UInt8) : (tkB b).length ≤ b.length := by
  unfold tkB; split
  · simp only [List.length_take, List.length_drop]; omega
  · simp
def fhSer (b : List UInt8) : Nat := if tkE b = 0 then hdSer (tkB b) else 0
def fhNew (b : List UInt8) : Bool := if tkE b = 0 then hdNew (tkB b) else false
def fhIx (b : List UInt8) : Nat := if tkE b = 0 then hdIx (tkB b) else 0
def fhTm (b : List UInt8) : Nat := if tkE b = 0 then hdTm (tkB b) else 0
theorem headOf_g (b : List UInt8) (g : G) (hb : b.length < 4294967200) {h : Heap} :
    Gives Tryz.prog 54 [.sl 1 (bs b) g] h (.tup [.agg [.int .u64 (fhSer b), .bool (fhNew b), .int .u64 (fhIx b), .int .u64 (fhTm b)], .bool (fhOk b)]) h := by
  have q1 := tkB_len b
  refine c54 rfl ?_
  repeat' (first | ((with_reducible apply Nx.mk); conv => whnf) | ((with_reducible first | apply brS_i | apply spB_i) <;> intro c <;> (try exact absurd c (by decide)) <;> (try simp only [decide_eq_true_eq, decide_eq_false_iff_not, beq_iff_eq, bne_iff_ne, Bool.not_eq_true', Bool.not_eq_false', beq_eq_false_iff_ne, Bool.not_true, Bool.not_false, reduceCtorEq, ne_eq, bne_eq_false_iff_eq, Int.not_lt, Int.not_le, Decidable.not_not] at c) <;> (try (exfalso; omega))) | ((with_reducible apply HN.i); (next => first | rfl | fail)) | refine CallS.gives n114 (take_g _ _ (by omega)) ?_ | refine CallS.gives n115 (readHead_g _ _ _ (by omega)) ?_ | with_reducible apply And.intro | exact trivial | exact Nat.le_of_ble_eq_true rfl | fail)
  · have e : tkE b ≠ 0 := by omega
    refine Js.Fin.mk ⟨?_, by (repeat (first | exact Heap.sub_rfl _ | fail))⟩
    unfold fhOk fhSer fhNew fhIx fhTm
    simp only [if_neg e, show (tkE b == 0) = false from by simp [e], Bool.false_and]
    exact .rfl _
  · have e : tkE b = 0 := by omega
    refine Js.Fin.mk ⟨?_, by (repeat (first | exact Heap.sub_rfl _ | fail))⟩
    unfold fhOk fhSer fhNew fhIx fhTm
    simp only [if_pos e, show (tkE b == 0) = true from by simp [e], Bool.true_and]
    exact .rfl _
theorem rfirst_g (b : List UInt8) (g : G) (hb : b.length < 4294967200) {h : Heap} :
    Gives Tryz.prog 48 [.sl 1 (bs b) g] h (.tup [.int .u64 (fhSer b), .bool (fhOk b)]) h := by
  have q1 := tkB_len b
  refine c48 rfl ?_
  repeat' (first | ((with_reducible apply Nx.mk); conv => whnf) | ((with_reducible first | apply brS_i | apply spB_i) <;> intro c <;> (try exact absurd c (by decide)) <;> (try simp only [decide_eq_true_eq, decide_eq_false_iff_not, beq_iff_eq, bne_iff_ne, Bool.not_eq_true', Bool.not_eq_false', beq_eq_false_iff_ne, Bool.not_true, Bool.not_false, reduceCtorEq, ne_eq, bne_eq_false_iff_eq, Int.not_lt, Int.not_le, Decidable.not_not] at c) <;> (try (exfalso; omega))) | ((with_reducible apply HN.i); (next => first | rfl | fail)) | refine CallS.gives n107 (rtake_g _ _ (by omega)) ?_ | refine CallS.gives n108 (rhead_g _ _ _ (by omega)) ?_ | with_reducible apply And.intro | exact trivial | fail)
  · have e : tkE b ≠ 0 := by omega
    refine Js.Fin.mk ⟨?_, by (repeat (first | exact Heap.sub_rfl _ | fail))⟩
    unfold fhOk fhSer
    simp only [if_neg e, show (tkE b == 0) = false from by simp [e], Bool.false_and]
    exact .rfl _
  · have e : tkE b = 0 := by omega
    refine Js.Fin.mk ⟨?_, by (repeat (first | exact Heap.sub_rfl _ | fail))⟩
    unfold fhOk fhSer
    simp only [if_pos e, show (tkE b == 0) = true from by simp [e], Bool.true_and]
    exact .rfl _
end J
end

section
/- Logs: a floor, and entries above it. -/
namespace J
open Go Go.Proofs Jb Js
set_option maxRecDepth 100000
set_option maxHeartbeats 4000000




theorem c92 {args : List V} {h : Heap} {K : V → Heap → Prop} (hn : Nat.ble args.length Tryz.f92.ntmps = true) (e : Nx (bodyS Tryz.prog ⟨[], [], false⟩ Tryz.f92 args h K)) : CallW Tryz.prog 92 args h K := CallW.go mix _ Tryz.func92 (Nat.le_of_ble_eq_true hn) rfl e
theorem n92 : enters Tryz.prog 92 = true := by kernel_rfl
theorem c101 {args : List V} {h : Heap} {K : V → Heap → Prop} (hn : Nat.ble args.length Tryz.f101.ntmps = true) (e : Nx (bodyS Tryz.prog ⟨[], [], false⟩ Tryz.f101 args h K)) : CallW Tryz.prog 101 args h K := CallW.go mix _ Tryz.func101 (Nat.le_of_ble_eq_true hn) rfl e
theorem n101 : enters Tryz.prog 101 = true := by kernel_rfl
theorem c147 {args : List V} {h : Heap} {K : V → Heap → Prop} (hn : Nat.ble args.length Tryz.f147.ntmps = true) (e : Nx (bodyS Tryz.prog ⟨[], [], false⟩ Tryz.f147 args h K)) : CallW Tryz.prog 147 args h K := CallW.go mix _ Tryz.func147 (Nat.le_of_ble_eq_true hn) rfl e
theorem n147 : enters Tryz.prog 147 = true := by kernel_rfl
theorem c148 {args : List V} {h : Heap} {K : V → Heap → Prop} (hn : Nat.ble args.length Tryz.f148.ntmps = true) (e : Nx (bodyS Tryz.prog ⟨[], [], false⟩ Tryz.f148 args h K)) : CallW Tryz.prog 148 args h K := CallW.go mix _ Tryz.func148 (Nat.le_of_ble_eq_true hn) rfl e
theorem n148 : enters Tryz.prog 148 = true := by kernel_rfl
theorem c146 {args : List V} {h : Heap} {K : V → Heap → Prop} (hn : Nat.ble args.length Tryz.f146.ntmps = true) (e : Nx (bodyS Tryz.prog ⟨[], [], false⟩ Tryz.f146 args h K)) : CallW Tryz.prog 146 args h K := CallW.go mix _ Tryz.func146 (Nat.le_of_ble_eq_true hn) rfl e
theorem n146 : enters Tryz.prog 146 = true := by kernel_rfl
theorem c177 {args : List V} {h : Heap} {K : V → Heap → Prop} (hn : Nat.ble args.length Tryz.f177.ntmps = true) (e : Nx (bodyS Tryz.prog ⟨[4, 5], [], false⟩ Tryz.f177 args h K)) : CallW Tryz.prog 177 args h K := CallW.go mix _ Tryz.func177 (Nat.le_of_ble_eq_true hn) rfl e
theorem n177 : enters Tryz.prog 177 = true := by kernel_rfl
theorem c186 {args : List V} {h : Heap} {K : V → Heap → Prop} (hn : Nat.ble args.length Tryz.f186.ntmps = true) (e : Nx (bodyS Tryz.prog ⟨[], [], false⟩ Tryz.f186 args h K)) : CallW Tryz.prog 186 args h K := CallW.go mix _ Tryz.func186 (Nat.le_of_ble_eq_true hn) rfl e
theorem n186 : enters Tryz.prog 186 = true := by kernel_rfl
theorem i186 {args : List V} {h : Heap} {K : V → Heap → Prop} (hn : Nat.ble args.length Tryz.f186.ntmps = true) (e : Nx (bodyS Tryz.prog ⟨[], [], false⟩ Tryz.f186 args h K)) : CallS Tryz.prog 186 args h K := ⟨AnyW.call n186 (c186 hn e)⟩
theorem c102 {args : List V} {h : Heap} {K : V → Heap → Prop} (hn : Nat.ble args.length Tryz.f102.ntmps = true) (e : Nx (bodyS Tryz.prog ⟨[], [], false⟩ Tryz.f102 args h K)) : CallW Tryz.prog 102 args h K := CallW.go mix _ Tryz.func102 (Nat.le_of_ble_eq_true hn) rfl e
theorem n102 : enters Tryz.prog 102 = true := by kernel_rfl
theorem c89 {args : List V} {h : Heap} {K : V → Heap → Prop} (hn : Nat.ble args.length Tryz.f89.ntmps = true) (e : Nx (bodyS Tryz.prog ⟨[], [(1, [4, 3, 2, 10], []), (6, [4, 3, 2, 10], [])], false⟩ Tryz.f89 args h K)) : CallW Tryz.prog 89 args h K := CallW.go mix _ Tryz.func89 (Nat.le_of_ble_eq_true hn) rfl e
theorem n89 : enters Tryz.prog 89 = true := by kernel_rfl
structure Ent where
  ix : Nat
  tm : Nat
  b : List UInt8
def er (e : Ent) : List V := [.int .u64 e.ix, .int .u64 e.tm, .sl 1 (bs e.b) .no]
def es (l : List Ent) : List (List V) := l.map er
def ea (l : List Ent) (i : Nat) : Ent := l.getD i ⟨0, 0, []⟩
theorem es_len (l : List Ent) : (es l).length = l.length := by simp [es]
theorem es_at {l : List Ent} {i : Nat} (hi : i < l.length) : (es l)[i]? = some [.int .u64 (ea l i).ix, .int .u64 (ea l i).tm, .sl 1 (bs (ea l i).b) .no] := by simp [es, ea, hi, er]
theorem es_part (l : List Ent) (i j : Nat) : ((es l).take j).drop i = es ((l.take j).drop i) := by simp [es, List.map_drop, List.map_take]
theorem es_app (l m : List Ent) : es l ++ es m = es (l ++ m) := by simp [es]
theorem es_snoc (l : List Ent) (a b : Nat) (c : List UInt8) : es l ++ [[.int .u64 (a : Int), .int .u64 (b : Int), .sl 1 (bs c) .no]] = es (l ++ [⟨a, b, c⟩]) := by simp [es, er]
theorem es_nil' {l : List Ent} (h : es l = []) : l = [] := by cases l with | nil => rfl | cons a l => simp [es] at h
def lastE (F : Ent) (L : List Ent) : Ent := if L.length = 0 then F else ea L (L.length - 1)

def logc (F : Ent) (L : List Ent) (g : G) : List V := [.int .u64 F.ix, .int .u64 F.tm, .sl 1 [] .full, .sl 3 (es L) g]
def lgH (hb : Heap) (p : Nat) (F : Ent) (L : List Ent) (g : G) : Heap := gr (hb.upd p (.cells (logc F L g))) g 3 L.length
structure Fre (hb : Heap) (p : Nat) (g : G) : Prop where
  own : ∀ s, g = .own s → hb s = none ∧ s ≠ p
  yes : g ≠ .no
theorem lg_at {hb : Heap} {p : Nat} {F : Ent} {L : List Ent} {g : G} (f : Fre hb p g) : (lgH hb p F L g) p = some (.cells [.int .u64 F.ix, .int .u64 F.tm, .sl 1 [] .full, .sl 3 (es L) g]) := by
  unfold lgH gr
  cases g with
  | own s => exact hp_ne (f.own s rfl).2.symm (hp_same _ _ _)
  | _ => exact hp_same _ _ _
theorem lg_ne {hb : Heap} {p x : Nat} {F : Ent} {L : List Ent} {g : G} {o : Ob} (f : Fre hb p g) (hx : x ≠ p) (e : hb x = some o) : (lgH hb p F L g) x = some o := by
  unfold lgH gr
  cases g with
  | own s => exact hp_ne (by rintro rfl; rw [(f.own x rfl).1] at e; cases e) (hp_ne hx e)
  | _ => exact hp_ne hx e
theorem lg_can {hb : Heap} {p : Nat} {F : Ent} {L : List Ent} {g : G} (f : Fre hb p g) : Can g 3 L.length (lgH hb p F L g) := by
  unfold lgH gr
  cases g with
  | own s => exact .inr ⟨s, rfl, hp_same _ _ _⟩
  | full => exact .inl rfl
  | no => exact (f.yes rfl).elim
theorem fre_full {hb : Heap} {p : Nat} : Fre hb p .full := ⟨by simp, by simp⟩
theorem lg_sub {hb h1 : Heap} {p : Nat} {F : Ent} {L : List Ent} {g : G} {n : Nat} (hn : n = L.length) (hs : ∀ x o, x ≠ p → hb x = some o → h1 x = some o) (f : Fre hb p g) : (lgH hb p F L g).Sub ((gr h1 g 3 n).upd p (.cells (logc F L g))) := by
  subst hn
  intro x o e
  by_cases hx : x = p
  · subst hx; rw [lg_at f] at e; rw [← e]; exact hp_same _ _ _
  · refine hp_ne hx ?_
    unfold lgH at e
    unfold gr at e ⊢
    cases g with
    | own s =>
      simp only at e ⊢
      by_cases hxs : x = s
      · subst hxs; rw [hp_same] at e; rw [← e]; exact hp_same _ _ _
      · rw [upd_ne _ _ hxs, upd_ne _ _ hx] at e; exact hp_ne hxs (hs x o hx e)
    | full => simp only at e ⊢; rw [upd_ne _ _ hx] at e; exact hs x o hx e
    | no => simp only at e ⊢; rw [upd_ne _ _ hx] at e; exact hs x o hx e
theorem fre_new {hb h1 : Heap} {p n : Nat} {g g' : G} {o : Ob} (f : Fre hb p g) (hg : GNew 3 n h1 g g') (hs : ∀ x o, x ≠ p → hb x = some o → h1 x = some o) (hp : h1 p = some o) : Fre hb p g' := by
  refine ⟨fun s e => ?_, hg.yes⟩
  cases g with
  | own t => have := hg.own t rfl; rw [this] at e; cases e; exact f.own _ rfl
  | full =>
    have hn := hg.new rfl s e
    have hne : s ≠ p := by rintro rfl; rw [hp] at hn; cases hn
    refine ⟨?_, hne⟩
    cases hb2 : hb s with
    | none => rfl
    | some o => rw [hs s o hne hb2] at hn; cases hn
  | no => exact (f.yes rfl).elim

def GivesL (f : FuncId) (args : List V) (hb : Heap) (p : Nat) (F : Ent) (L : List Ent) (g : G) (r : V) (F' : Ent) (L' : List Ent) : Prop :=
  CallW Tryz.prog f args (lgH hb p F L g) fun r' h' => ∃ g', Fre hb p g' ∧ Weak r' r ∧ (lgH hb p F' L' g').Sub h'
theorem CallS.givesL {f : FuncId} {args : List V} {hb : Heap} {p : Nat} {F : Ent} {L : List Ent} {g : G} {r : V} {F' : Ent} {L' : List Ent} {K : V → Heap → Prop} (he : enters Tryz.prog f = true) (c : GivesL f args hb p F L g r F' L')
    (m : ∀ g', Fre hb p g' → Nx (K r (lgH hb p F' L' g'))) : CallS Tryz.prog f args (lgH hb p F L g) K :=
  ⟨AnyW.call he (CallW.weak c fun r' h' ⟨g', hg, e, s⟩ => ⟨r, _, e, s, (m g' hg).out⟩)⟩

theorem last_g {p : Nat} {F : Ent} {L : List Ent} {g : G} (hF : F.b = []) {h : Heap} (hp : h p = some (.cells [.int .u64 F.ix, .int .u64 F.tm, .sl 1 [] .full, .sl 3 (es L) g])) (hl : L.length < 4294967296) :
    Gives Tryz.prog 92 [.ptr p 0] h (.agg [.int .u64 (lastE F L).ix, .int .u64 (lastE F L).tm, .sl 1 (bs (lastE F L).b) .no]) h := by
  refine c92 rfl ?_
  repeat' (first | ((with_reducible apply Nx.mk); conv => whnf) | ((with_reducible apply RdC.i); (next => ((repeat (first | with_reducible assumption | fail)); (first | done | fail))); (next => first | rfl | fail)) | ((with_reducible apply RdH.i); (next => ((repeat (first | with_reducible assumption | fail)); (first | done | fail)))) | ((with_reducible first | apply brS_i | apply spB_i) <;> intro c <;> (try exact absurd c (by decide)) <;> (try simp only [decide_eq_true_eq, decide_eq_false_iff_not, beq_iff_eq, bne_iff_ne, Bool.not_eq_true', Bool.not_eq_false', beq_eq_false_iff_ne, Bool.not_true, Bool.not_false, reduceCtorEq, ne_eq, bne_eq_false_iff_eq, Int.not_lt, Int.not_le, Decidable.not_not] at c) <;> (try (exfalso; omega))) | ((with_reducible apply RdE.i); (next => first | with_reducible rfl | fail); (next => first | with_reducible exact es_at (by omega) | fail)) | ((with_reducible apply Nm.i); (next => first | with_reducible exact es_len _ | fail)) | ((with_reducible apply Wr.i); (next => first | with_reducible exact wn_subl (by omega) (by omega) | fail)) | ((with_reducible apply Plan.i); (next => kernel_rfl); (next => kernel_rfl)) | with_reducible apply And.intro | exact trivial | exact Nat.le_of_ble_eq_true rfl | fail)
  · refine Js.Fin.mk ⟨?_, by (repeat (first | exact Heap.sub_rfl _ | fail))⟩
    unfold lastE
    rw [if_pos (by omega), hF]
    exact .aggL (.cons (.rfl _) (.cons (.rfl _) (.cons (.sl _ _ _) .nil)))
  · refine Js.Fin.mk ⟨?_, by (repeat (first | exact Heap.sub_rfl _ | fail))⟩
    unfold lastE
    rw [if_neg (by omega)]
    exact .rfl _
theorem eclone_s (l : List Ent) (g : G) (hb : l.length < 4294967296) {h : Heap} : GivesS Tryz.prog 102 [.sl 3 (es l) g] h 3 (es l) l.length := by
  refine c102 rfl ?_
  repeat' (first | ((with_reducible apply Nx.mk); conv => whnf) | ((with_reducible first | apply brS_i | apply spB_i) <;> intro c <;> (try exact absurd c (by decide)) <;> (try simp only [decide_eq_true_eq, decide_eq_false_iff_not, beq_iff_eq, bne_iff_ne, Bool.not_eq_true', Bool.not_eq_false', beq_eq_false_iff_ne, Bool.not_true, Bool.not_false, reduceCtorEq, ne_eq, bne_eq_false_iff_eq, Int.not_lt, Int.not_le, Decidable.not_not] at c) <;> (try (exfalso; omega))) | ((with_reducible apply Nm.i); (next => first | with_reducible exact es_len _ | with_reducible exact List.length_nil | with_reducible exact List.nil_append _ | fail)) | ((with_reducible apply App.i); (next => (repeat (first | exact .full | fail))); intro g' hg') | with_reducible apply And.intro | exact trivial | with_reducible intro _ | fail)
  · rename_i bb hbb
    have : es l = [] := Classical.byContradiction fun hn => by rw [hbb hn] at c; cases c
    obtain rfl := es_nil' this
    exact ⟨.full, ⟨.full, by simp, by simp, by simp⟩, rfl, Heap.sub_rfl _⟩
  · unfold mostLen; omega
  · exact ⟨g', hg', rfl, by simp only [Nat.zero_add]; exact Heap.sub_rfl _⟩

def fI (l : List Ent) (a b : Nat) : Nat := l.findIdx fun e => e.ix == a && e.tm == b
theorem ea_get {l : List Ent} {i : Nat} (h : i < l.length) : ea l i = l[i] := by simp [ea, h]
theorem idx_g (l : List Ent) (g : G) (p1 p2 a b : Nat) {h : Heap} (h1 : h p1 = some (.cells [.int .u64 a])) (h2 : h p2 = some (.cells [.int .u64 b])) (hl : l.length < 4294967296) :
    Gives Tryz.prog 89 [.sl 3 (es l) g, .fn (.func 186) [] [.ptr p1 0, .ptr p2 0]] h (.int .i64 (if fI l a b < l.length then (fI l a b : Int) else -1)) h := by
  refine c89 rfl ?_
  repeat' (first | ((with_reducible apply Nx.mk); conv => whnf) | ((with_reducible apply Nm.i); (next => first | with_reducible exact es_len _ | fail)) | fail)
  refine loopS (σ := Nat) (fun i => frm 19 [(0, .sl 3 (es l) g), (1, .fn (.func 186) [] [.ptr p1 0, .ptr p2 0]), (7, .int .i64 l.length), (8, .int .i64 i)]) (fun _ => []) (fun i => l.length - i)
    (fun i h' => h' = h ∧ i ≤ l.length ∧ ∀ k, k < i → ¬ ((ea l k).ix = a ∧ (ea l k).tm = b)) 0 rfl ⟨rfl, by simp, by simp⟩ ?_
  rintro i h ⟨rfl, k1, k2⟩
  simp only at k1 k2 ⊢
  repeat' (first | ((with_reducible apply Nx.mk); conv => whnf) | ((with_reducible apply Js.Fin.mk); (with_reducible apply Nx.mk); conv => whnf) | ((with_reducible apply RdC.i); (next => ((repeat (first | with_reducible assumption | fail)); (first | done | fail))); (next => first | rfl | fail)) | ((with_reducible apply RdV.i); (next => first | rfl | fail)) | ((with_reducible first | apply brS_i | apply spB_i) <;> intro c <;> (try exact absurd c (by decide)) <;> (try simp only [decide_eq_true_eq, decide_eq_false_iff_not, beq_iff_eq, bne_iff_ne, Bool.not_eq_true', Bool.not_eq_false', beq_eq_false_iff_ne, Bool.not_true, Bool.not_false, reduceCtorEq, ne_eq, bne_eq_false_iff_eq, Int.not_lt, Int.not_le, Decidable.not_not] at c) <;> (try (exfalso; omega))) | ((with_reducible apply RdE.i); (next => first | with_reducible rfl | fail); (next => first | with_reducible exact es_at (by omega) | fail)) | ((with_reducible apply Wr.i); (next => first | with_reducible exact wn_addl (by omega) | fail)) | refine i186 rfl ?_ | with_reducible apply And.intro | with_reducible intro _ | exact Nat.le_of_ble_eq_true rfl | exact rfl | fail)
  · refine Js.Fin.mk ⟨?_, by (repeat (first | exact Heap.sub_rfl _ | fail))⟩
    have hi : i < l.length := by omega
    have e : fI l a b = i := by
      unfold fI
      rw [List.findIdx_eq hi]
      refine ⟨?_, fun k hk => ?_⟩
      · rw [← ea_get hi]; simp; omega
      · have := k2 k hk
        rw [ea_get (by omega)] at this
        simpa using this
    rw [e, if_pos hi]
    exact .rfl _
  · exact Js.Fin.mk ⟨i + 1, rfl, ⟨rfl, by omega, fun k hk => by
      by_cases e : k = i
      · subst e; omega
      · exact k2 k (by omega)⟩, by omega⟩
  · exact Js.Fin.mk ⟨i + 1, rfl, ⟨rfl, by omega, fun k hk => by
      by_cases e : k = i
      · subst e; omega
      · exact k2 k (by omega)⟩, by omega⟩
  · refine Js.Fin.mk ⟨?_, by (repeat (first | exact Heap.sub_rfl _ | fail))⟩
    have e : ¬ fI l a b < l.length := fun q => by
      unfold fI at q
      have := List.findIdx_getElem (w := q)
      have h3 := k2 _ (show l.findIdx (fun e => e.ix == a && e.tm == b) < i from by omega)
      rw [ea_get q] at h3
      simp at this
      exact h3 this
    rw [if_neg e]
    exact .rfl _

def ad1 (b : List UInt8) : List UInt8 := natR 4611686018427387904 b
def ad2 (b : List UInt8) : List UInt8 := natR 4611686018427387904 (ad1 b)
def adEnt (b : List UInt8) : Ent := ⟨natV 4611686018427387904 b, natV 4611686018427387904 (ad1 b), textV 512 (ad2 b)⟩
def adE (b : List UInt8) : Nat := endE (((false || natX 4611686018427387904 b) || natX 4611686018427387904 (ad1 b)) || textX 512 (ad2 b)) (textR 512 (ad2 b))
def adOk (F : Ent) (L : List Ent) (b : List UInt8) : Bool := adE b == 0 && (adEnt b).ix != 0 && (adEnt b).ix - 1 == (lastE F L).ix && decide ((lastE F L).tm ≤ (adEnt b).tm)
def adL (F : Ent) (L : List Ent) (b : List UInt8) : List Ent := if adOk F L b = true then L ++ [adEnt b] else L
theorem ad1_len (b : List UInt8) : (natR 4611686018427387904 b).length ≤ b.length := natR_len _ _
theorem ad2_len (b : List UInt8) : (natR 4611686018427387904 (natR 4611686018427387904 b)).length ≤ b.length := Nat.le_trans (natR_len _ _) (ad1_len b)
theorem add_c {hb : Heap} {p : Nat} {F : Ent} {L : List Ent} {g : G} (f : Fre hb p g) (hF : F.b = []) (hl : L.length < 4294967200) (b : List UInt8) (g0 : G) (hbl : b.length < 4294967200) :
    GivesL 147 [.ptr p 0, .sl 1 (bs b) g0] hb p F L g (.bool (adOk F L b)) F (adL F L b) := by
  have q1 := ad1_len b
  have q2 := ad2_len b
  have q3 := natV_le 4611686018427387904 b
  refine c147 rfl ?_
  repeat' (first | ((with_reducible apply Nx.mk); conv => whnf) | ((with_reducible apply Js.Fin.mk); (with_reducible apply Nx.mk); conv => whnf) | ((with_reducible apply RdC.i); (next => ((repeat (first | exact lg_at (by with_reducible assumption) | refine hp_new (by with_reducible assumption) ?_ | fail)); (first | done | fail))); (next => first | rfl | fail)) | ((with_reducible apply RdV.i); (next => first | rfl | fail)) | ((with_reducible apply RdH.i); (next => ((repeat (first | exact lg_at (by with_reducible assumption) | refine hp_new (by with_reducible assumption) ?_ | refine hp_gr (by with_reducible assumption) rfl ?_ | fail)); (first | done | fail)))) | ((with_reducible first | apply brS_i | apply spB_i) <;> intro c <;> (try exact absurd c (by decide)) <;> (try simp only [decide_eq_true_eq, decide_eq_false_iff_not, beq_iff_eq, bne_iff_ne, Bool.not_eq_true', Bool.not_eq_false', beq_eq_false_iff_ne, Bool.not_true, Bool.not_false, reduceCtorEq, ne_eq, bne_eq_false_iff_eq, Int.not_lt, Int.not_le, Decidable.not_not] at c) <;> (try (exfalso; omega))) | ((with_reducible apply Nm.i); (next => first | with_reducible exact tx_bs _ | with_reducible exact es_len _ | with_reducible exact es_snoc _ _ _ _ | rfl | fail)) | ((with_reducible apply Wr.i); (next => first | with_reducible exact wu_subl (by omega) (by omega) | fail)) | ((with_reducible apply New.i); intro l hl) | ((with_reducible apply App.i); (next => (repeat (first | exact lg_can (by with_reducible assumption) | refine can_new (by with_reducible assumption) ?_ | fail))); intro g' hg') | ((with_reducible apply Up.i); (next => first | rfl | fail)) | ((with_reducible apply HN.i); (next => first | exact upd_upd _ _ _ _ | rfl | fail)) | ((with_reducible apply Plan.i); (next => kernel_rfl); (next => kernel_rfl)) | refine i154 rfl ?_ | refine CallS.gives n155 (nat_g _ _ _ (most := 4611686018427387904) (by ((repeat (first | exact hp_same _ _ _ | fail)); (first | done | fail))) (by omega) (by omega)) ?_ | refine CallS.gives n178 (text_g _ _ _ (most := 512) (by ((repeat (first | exact hp_same _ _ _ | fail)); (first | done | fail))) (by omega) (by omega)) ?_ | refine CallS.gives n160 (end_g _ _ _ (by ((repeat (first | exact hp_same _ _ _ | fail)); (first | done | fail)))) ?_ | refine CallS.gives n92 (last_g hF (by ((repeat (first | exact lg_at (by with_reducible assumption) | refine hp_new (by with_reducible assumption) ?_ | fail)); (first | done | fail))) (by omega)) ?_ | with_reducible apply And.intro | exact trivial | with_reducible intro _ | exact Nat.le_of_ble_eq_true rfl | exact rfl | fail)
  all_goals (try (
    have e : adOk F L b = false := by
      rw [Bool.eq_false_iff]
      intro q
      unfold adOk adE adEnt ad2 ad1 at q
      simp only [Bool.and_eq_true, beq_iff_eq, bne_iff_ne, decide_eq_true_eq, ne_eq] at q
      omega
    have e2 : adL F L b = L := by unfold adL; rw [e]; rfl
    refine Js.Fin.mk ⟨g, f, by rw [e]; exact .rfl _, by rw [e2]; (repeat (first | exact Heap.sub_rfl _ | refine sub_new (by (repeat (first | with_reducible assumption | fail))) ?_ | fail))⟩))
  · simp only [mostLen, List.length_cons, List.length_nil]; omega
  · have e : adOk F L b = true := by
      unfold adOk adE adEnt ad2 ad1
      simp only [Bool.and_eq_true, beq_iff_eq, bne_iff_ne, decide_eq_true_eq, ne_eq]
      omega
    have e2 : adL F L b = L ++ [adEnt b] := by unfold adL; rw [e]; rfl
    have f' := fre_new f hg' (fun x o hx hxo => hp_new hl (lg_ne f hx hxo)) (hp_new hl (lg_at f))
    refine Js.Fin.mk ⟨g', f', by rw [e]; exact .rfl _, ?_⟩
    rw [e2]
    exact lg_sub (L := L ++ [adEnt b]) (by simp) (fun x o hx hxo => hp_new hl (lg_ne f hx hxo)) f'

def ctFrom (b : List UInt8) : Nat := natV 18446744073709551615 b
def ctE (b : List UInt8) : Nat := endE (false || natX 18446744073709551615 b) (natR 18446744073709551615 b)
def ctOk (F : Ent) (L : List Ent) (own : Nat) (b : List UInt8) : Bool := ctE b == 0 && decide (own < ctFrom b) && decide (F.ix < ctFrom b) && decide (ctFrom b - 1 ≤ (lastE F L).ix)
def ctL (F : Ent) (L : List Ent) (own : Nat) (b : List UInt8) : List Ent := if ctOk F L own b = true then L.take (ctFrom b - 1 - F.ix) else L
theorem may_g {p : Nat} {F : Ent} {L : List Ent} {g : G} (x : Nat) (hF : F.b = []) {h : Heap} (hp : h p = some (.cells [.int .u64 F.ix, .int .u64 F.tm, .sl 1 [] .full, .sl 3 (es L) g])) (hl : L.length < 4294967296) (hx : x < 18446744073709551616) :
    Gives Tryz.prog 101 [.ptr p 0, .int .u64 x] h (.bool (decide (F.ix < x ∧ x - 1 ≤ (lastE F L).ix))) h := by
  refine c101 rfl ?_
  repeat' (first | ((with_reducible apply Nx.mk); conv => whnf) | ((with_reducible apply RdC.i); (next => ((repeat (first | with_reducible assumption | fail)); (first | done | fail))); (next => first | rfl | fail)) | ((with_reducible first | apply brS_i | apply spB_i) <;> intro c <;> (try exact absurd c (by decide)) <;> (try simp only [decide_eq_true_eq, decide_eq_false_iff_not, beq_iff_eq, bne_iff_ne, Bool.not_eq_true', Bool.not_eq_false', beq_eq_false_iff_ne, Bool.not_true, Bool.not_false, reduceCtorEq, ne_eq, bne_eq_false_iff_eq, Int.not_lt, Int.not_le, Decidable.not_not] at c) <;> (try (exfalso; omega))) | ((with_reducible apply Wr.i); (next => first | with_reducible exact wu_subl (by omega) (by omega) | fail)) | ((with_reducible apply HN.i); (next => first | rfl | fail)) | refine CallS.gives n92 (last_g hF (by ((repeat (first | with_reducible assumption | fail)); (first | done | fail))) (by omega)) ?_ | with_reducible intro _ | fail)
  · refine Js.Fin.mk ⟨?_, by (repeat (first | exact Heap.sub_rfl _ | fail))⟩
    rw [show decide (F.ix < x ∧ x - 1 ≤ (lastE F L).ix) = decide (((x - 1 : Nat) : Int) ≤ ((lastE F L).ix : Nat)) from decide_eq_decide.2 (by omega)]
    exact .rfl _
  · refine Js.Fin.mk ⟨?_, by (repeat (first | exact Heap.sub_rfl _ | fail))⟩
    rw [decide_eq_false (by omega)]
    exact .rfl _
theorem lastE_ix {F : Ent} {L : List Ent} (h : ∀ i, i < L.length → (ea L i).ix = F.ix + 1 + i) : (lastE F L).ix = F.ix + L.length := by
  unfold lastE
  split
  · omega
  · rw [h _ (by omega)]; omega
theorem cut_c {hb : Heap} {p : Nat} {F : Ent} {L : List Ent} {g : G} (f : Fre hb p g) (hF : F.b = []) (hl : L.length < 4294967200) (own : Nat) (ho : own < 18446744073709551616) (b : List UInt8) (g0 : G) (hbl : b.length < 4294967200) (hx : (lastE F L).ix = F.ix + L.length) :
    GivesL 148 [.ptr p 0, .sl 1 (bs b) g0, .int .u64 own] hb p F L g (.bool (ctOk F L own b)) F (ctL F L own b) := by
  have q3 := natV_le 18446744073709551615 b
  refine c148 rfl ?_
  repeat' (first | ((with_reducible apply Nx.mk); conv => whnf) | ((with_reducible apply Js.Fin.mk); (with_reducible apply Nx.mk); conv => whnf) | ((with_reducible apply RdC.i); (next => ((repeat (first | exact lg_at (by with_reducible assumption) | refine hp_new (by with_reducible assumption) ?_ | fail)); (first | done | fail))); (next => first | rfl | fail)) | ((with_reducible apply RdH.i); (next => ((repeat (first | exact lg_at (by with_reducible assumption) | refine hp_new (by with_reducible assumption) ?_ | refine hp_gr (by with_reducible assumption) rfl ?_ | fail)); (first | done | fail)))) | ((with_reducible first | apply brS_i | apply spB_i) <;> intro c <;> (try exact absurd c (by decide)) <;> (try simp only [decide_eq_true_eq, decide_eq_false_iff_not, beq_iff_eq, bne_iff_ne, Bool.not_eq_true', Bool.not_eq_false', beq_eq_false_iff_ne, Bool.not_true, Bool.not_false, reduceCtorEq, ne_eq, bne_eq_false_iff_eq, Int.not_lt, Int.not_le, Decidable.not_not] at c) <;> (try (exfalso; omega))) | ((with_reducible apply Nm.i); (next => first | with_reducible exact es_len _ | fail)) | ((with_reducible apply Wr.i); (next => first | with_reducible exact wu_subl (by omega) (by omega) | with_reducible exact wu_sub (by omega) (by omega) | fail)) | ((with_reducible apply Part.i); (next => first | with_reducible exact cast_ofNat _ | fail); (next => first | with_reducible rfl | fail); (next => omega); (next => first | omega | fail); (next => first | with_reducible exact es_part _ _ _ | fail)) | ((with_reducible apply New.i); intro l hl) | ((with_reducible apply Up.i); (next => first | rfl | fail)) | ((with_reducible apply HN.i); (next => first | exact upd_upd _ _ _ _ | rfl | fail)) | ((with_reducible apply Plan.i); (next => kernel_rfl); (next => kernel_rfl)) | refine i154 rfl ?_ | refine CallS.gives n155 (nat_g _ _ _ (most := 18446744073709551615) (by ((repeat (first | exact hp_same _ _ _ | fail)); (first | done | fail))) (by omega) (by omega)) ?_ | refine CallS.gives n160 (end_g _ _ _ (by ((repeat (first | exact hp_same _ _ _ | fail)); (first | done | fail)))) ?_ | refine CallS.gives n101 (may_g _ hF (by ((repeat (first | exact lg_at (by with_reducible assumption) | refine hp_new (by with_reducible assumption) ?_ | fail)); (first | done | fail))) (by omega) (by omega)) ?_ | (refine CallS.givesS n102 (eclone_s _ _ (by simp only [List.length_drop, List.length_take]; omega)) ?_; intro g' hg') | with_reducible apply And.intro | exact trivial | with_reducible intro _ | fail)
  all_goals (try (
    have e : ctOk F L own b = false := by
      rw [Bool.eq_false_iff]
      intro q
      unfold ctOk ctE ctFrom at q
      simp only [Bool.and_eq_true, beq_iff_eq, bne_iff_ne, decide_eq_true_eq, ne_eq] at q
      omega
    have e2 : ctL F L own b = L := by unfold ctL; rw [e]; rfl
    refine Js.Fin.mk ⟨g, f, by rw [e]; exact .rfl _, by rw [e2]; (repeat (first | exact Heap.sub_rfl _ | refine sub_new (by (repeat (first | with_reducible assumption | fail))) ?_ | fail))⟩))
  · have e : ctOk F L own b = true := by
      unfold ctOk ctE ctFrom
      simp only [Bool.and_eq_true, beq_iff_eq, bne_iff_ne, decide_eq_true_eq, ne_eq]
      omega
    have e2 : ctL F L own b = L.take (ctFrom b - 1 - F.ix) := by unfold ctL; rw [e]; rfl
    have f' := fre_new fre_full hg' (fun x o hx hxo => hp_new hl (lg_ne f hx hxo)) (hp_new hl (lg_at f))
    refine Js.Fin.mk ⟨g', f', by rw [e]; exact .rfl _, ?_⟩
    rw [e2]
    exact lg_sub (by simp [ctFrom]) (fun x o hx hxo => hp_new hl (lg_ne f hx hxo)) f'

def toOk (F : Ent) (L : List Ent) (a b : Nat) : Bool := decide (a = F.ix ∧ b = F.tm ∨ fI L a b < L.length)
def toL (F : Ent) (L : List Ent) (a b : Nat) : List Ent := if a = F.ix ∧ b = F.tm then [] else if fI L a b < L.length then L.take (fI L a b + 1) else L
theorem to_c {hb : Heap} {p : Nat} {F : Ent} {L : List Ent} {g : G} (f : Fre hb p g) (hF : F.b = []) (hl : L.length < 4294967200) (a b : Nat) :
    GivesL 177 [.ptr p 0, .int .u64 a, .int .u64 b] hb p F L g (.bool (toOk F L a b)) F (toL F L a b) := by
  refine c177 rfl ?_
  repeat' (first | ((with_reducible apply Nx.mk); conv => whnf) | ((with_reducible apply RdC.i); (next => ((repeat (first | exact hp_same _ _ _ | exact lg_at (by with_reducible assumption) | refine hp_new (by with_reducible assumption) ?_ | fail)); (first | done | fail))); (next => first | rfl | fail)) | ((with_reducible apply RdH.i); (next => ((repeat (first | exact lg_at (by with_reducible assumption) | refine hp_new (by with_reducible assumption) ?_ | refine hp_gr (by with_reducible assumption) rfl ?_ | fail)); (first | done | fail)))) | ((with_reducible first | apply brS_i | apply spB_i) <;> intro c <;> (try exact absurd c (by decide)) <;> (try simp only [decide_eq_true_eq, decide_eq_false_iff_not, beq_iff_eq, bne_iff_ne, Bool.not_eq_true', Bool.not_eq_false', beq_eq_false_iff_ne, Bool.not_true, Bool.not_false, reduceCtorEq, ne_eq, bne_eq_false_iff_eq, Int.not_lt, Int.not_le, Decidable.not_not] at c) <;> (try (exfalso; omega))) | ((with_reducible apply Nm.i); (next => first | with_reducible exact es_len _ | fail)) | ((with_reducible apply Wr.i); (next => first | exact wrap_i64 (by omega) (by omega) | fail)) | ((with_reducible apply Part.i); (next => first | with_reducible exact cast_ofNat _ | fail); (next => first | exact cast_nat (by omega) | fail); (next => omega); (next => first | omega | fail); (next => first | with_reducible exact es_part _ _ _ | fail)) | ((with_reducible apply New.i); intro l hl) | ((with_reducible apply Up.i); (next => first | rfl | fail)) | ((with_reducible apply HN.i); (next => first | rfl | fail)) | ((with_reducible apply Plan.i); (next => kernel_rfl); (next => kernel_rfl)) | refine CallS.gives n89 (idx_g _ _ _ _ _ _ (by ((repeat (first | exact hp_same _ _ _ | refine hp_new (by with_reducible assumption) ?_ | fail)); (first | done | fail))) (by ((repeat (first | exact hp_same _ _ _ | fail)); (first | done | fail))) (by omega)) ?_ | (refine CallS.givesS n102 (eclone_s _ _ (by simp only [List.length_drop, List.length_take]; omega)) ?_; intro g' hg') | with_reducible intro _ | fail)
  · refine Js.Fin.mk ⟨.full, fre_full, ?_, ?_⟩
    · rw [show toOk F L a b = true from decide_eq_true (.inl ⟨by omega, by omega⟩)]; exact .rfl _
    · rw [show toL F L a b = [] from if_pos ⟨by omega, by omega⟩]
      exact lg_sub (g := .full) (L := []) rfl (fun x o hx hxo => hp_new hl (hp_new (by assumption) (lg_ne f hx hxo))) fre_full
  all_goals have hN : ¬ (a = F.ix ∧ b = F.tm) := by omega
  all_goals (try (
    have hM : ¬ fI L a b < L.length := by split at c <;> omega
    refine Js.Fin.mk ⟨g, f, ?_, ?_⟩
    · rw [show toOk F L a b = false from decide_eq_false (by omega)]; exact .rfl _
    · rw [show toL F L a b = L from by unfold toL; rw [if_neg hN, if_neg hM]]; (repeat (first | exact Heap.sub_rfl _ | refine sub_new (by (repeat (first | with_reducible assumption | exact none_of (by with_reducible assumption) | fail))) ?_ | fail))))
  all_goals (
    have hM : fI L a b < L.length := by split at c <;> omega
    have hk : (List.drop 0 (List.take ((if fI L a b < L.length then (fI L a b : Int) else -1) + 1).toNat L)) = L.take (fI L a b + 1) := by rw [if_pos hM]; rfl
    rw [hk]
    have f' := fre_new fre_full hg' (fun x o hx hxo => hp_new hl (hp_new (by assumption) (lg_ne f hx hxo))) (hp_new hl (hp_new (by assumption) (lg_at f)))
    refine Js.Fin.mk ⟨g', f', ?_, ?_⟩
    · rw [show toOk F L a b = true from decide_eq_true (.inr hM)]; exact .rfl _
    · rw [show toL F L a b = L.take (fI L a b + 1) from by unfold toL; rw [if_neg hN, if_pos hM]]
      exact lg_sub rfl (fun x o hx hxo => hp_new hl (hp_new (by assumption) (lg_ne f hx hxo))) f')
theorem begin_c {hb : Heap} {p : Nat} {F : Ent} {L : List Ent} {g : G} (f : Fre hb p g) (hF : F.b = []) (hl : L.length < 4294967200) (ser a b : Nat) (n old : Bool) :
    GivesL 146 [.ptr p 0, .agg [.int .u64 ser, .bool n, .int .u64 a, .int .u64 b], .bool old] hb p F L g (.bool (old || n || toOk F L a b)) (if (old || n) = true then ⟨a, b, []⟩ else F) (if (old || n) = true then [] else toL F L a b) := by
  refine c146 rfl ?_
  repeat' (first | ((with_reducible apply Nx.mk); conv => whnf) | ((with_reducible apply RdV.i); (next => first | rfl | fail)) | ((with_reducible apply RdH.i); (next => ((repeat (first | exact lg_at (by with_reducible assumption) | fail)); (first | done | fail)))) | ((with_reducible first | apply brS_i | apply spB_i) <;> intro c <;> (try exact absurd c (by decide)) <;> (try simp only [decide_eq_true_eq, decide_eq_false_iff_not, beq_iff_eq, bne_iff_ne, Bool.not_eq_true', Bool.not_eq_false', beq_eq_false_iff_ne, Bool.not_true, Bool.not_false, reduceCtorEq, ne_eq, bne_eq_false_iff_eq, Int.not_lt, Int.not_le, Decidable.not_not] at c) <;> (try (exfalso; omega))) | ((with_reducible apply Up.i); (next => first | rfl | fail)) | (refine CallS.givesL n177 (to_c f hF hl _ _) ?_; intro g' hg') | with_reducible apply And.intro | exact trivial | with_reducible intro _ | exact rfl | fail)
  all_goals (try (
    have hO : (old || n) = true := by simp [*]
    refine Js.Fin.mk ⟨.full, fre_full, ?_, ?_⟩
    · rw [hO]; exact .rfl _
    · rw [if_pos hO, if_pos hO]
      exact lg_sub (F := ⟨a, b, []⟩) (g := .full) (L := []) rfl (fun x o hx hxo => lg_ne f hx hxo) fre_full))
  have hO : (old || n) = false := by simp [*]
  refine Js.Fin.mk ⟨g', hg', ?_, ?_⟩
  · rw [hO]; exact .rfl _
  · rw [hO]; exact Heap.sub_rfl _
end J
end

section
/- Where parcels end. -/
namespace J
open Go Go.Proofs Jb Js
set_option maxRecDepth 100000
set_option maxHeartbeats 4000000
theorem c145 {args : List V} {h : Heap} {K : V → Heap → Prop} (hn : Nat.ble args.length Tryz.f145.ntmps = true) (e : Nx (bodyS Tryz.prog ⟨[1], [], false⟩ Tryz.f145 args h K)) : CallW Tryz.prog 145 args h K := CallW.go mix _ Tryz.func145 (Nat.le_of_ble_eq_true hn) rfl e
theorem n145 : enters Tryz.prog 145 = true := by kernel_rfl
theorem i145 {args : List V} {h : Heap} {K : V → Heap → Prop} (hn : Nat.ble args.length Tryz.f145.ntmps = true) (e : Nx (bodyS Tryz.prog ⟨[1], [], false⟩ Tryz.f145 args h K)) : CallS Tryz.prog 145 args h K := ⟨AnyW.call n145 (c145 hn e)⟩
theorem c176 {args : List V} {h : Heap} {K : V → Heap → Prop} (hn : Nat.ble args.length Tryz.f176.ntmps = true) (e : Nx (bodyS Tryz.prog ⟨[], [(0, [1, 1, 2, 24], []), (3, [1, 1, 2, 24], [])], false⟩ Tryz.f176 args h K)) : CallW Tryz.prog 176 args h K := CallW.go mix _ Tryz.func176 (Nat.le_of_ble_eq_true hn) rfl e
theorem n176 : enters Tryz.prog 176 = true := by kernel_rfl
theorem c163 {args : List V} {h : Heap} {K : V → Heap → Prop} (hn : Nat.ble args.length Tryz.f163.ntmps = true) (e : Nx (bodyS Tryz.prog ⟨[1], [], false⟩ Tryz.f163 args h K)) : CallW Tryz.prog 163 args h K := CallW.go mix _ Tryz.func163 (Nat.le_of_ble_eq_true hn) rfl e
theorem n163 : enters Tryz.prog 163 = true := by kernel_rfl
theorem i163 {args : List V} {h : Heap} {K : V → Heap → Prop} (hn : Nat.ble args.length Tryz.f163.ntmps = true) (e : Nx (bodyS Tryz.prog ⟨[1], [], false⟩ Tryz.f163 args h K)) : CallS Tryz.prog 163 args h K := ⟨AnyW.call n163 (c163 hn e)⟩
theorem c181 {args : List V} {h : Heap} {K : V → Heap → Prop} (hn : Nat.ble args.length Tryz.f181.ntmps = true) (e : Nx (bodyS Tryz.prog ⟨[], [(0, [4, 24], []), (3, [4, 23], [])], false⟩ Tryz.f181 args h K)) : CallW Tryz.prog 181 args h K := CallW.go mix _ Tryz.func181 (Nat.le_of_ble_eq_true hn) rfl e
theorem n181 : enters Tryz.prog 181 = true := by kernel_rfl
theorem c118 {args : List V} {h : Heap} {K : V → Heap → Prop} (hn : Nat.ble args.length Tryz.f118.ntmps = true) (e : Nx (bodyS Tryz.prog ⟨[4], [], false⟩ Tryz.f118 args h K)) : CallW Tryz.prog 118 args h K := CallW.go mix _ Tryz.func118 (Nat.le_of_ble_eq_true hn) rfl e
theorem n118 : enters Tryz.prog 118 = true := by kernel_rfl
theorem fV_i {v : V} {k : V → Prop} (r : Nx (k v)) : fV v k := (fV_iff _ _).2 r.out
theorem tk_len {b : List UInt8} (h : tkE b = 0) : 4 ≤ tkN b ∧ tkN b ≤ b.length := by
  unfold tkN
  rw [if_pos h]
  refine ⟨by omega, ?_⟩
  have e : (tkRest b).length ≤ (b.drop 1).length := natR_len _ _
  simp only [List.length_drop] at e
  unfold tkE at h
  unfold tkFrom
  split at h; · omega
  split at h; · omega
  split at h; · omega
  split at h; · omega
  split at h; · omega
  split at h; · omega
  omega
def restP (b : List UInt8) : List UInt8 := if h : tkE b = 0 then restP (b.drop (tkN b)) else b
  termination_by b.length
  decreasing_by have := tk_len h; simp only [List.length_drop]; omega
theorem restP_ok {b : List UInt8} (h : tkE b = 0) : restP b = restP (b.drop (tkN b)) := by rw [restP.eq_1 b]; exact dif_pos h
theorem restP_end {b : List UInt8} (h : tkE b ≠ 0) : restP b = b := by rw [restP]; exact dif_neg h
theorem tkN_le (b : List UInt8) : tkN b ≤ b.length := by
  by_cases h : tkE b = 0
  · exact (tk_len h).2
  · unfold tkN; rw [if_neg h]; omega
theorem rest_suf : ∀ (n : Nat) (b : List UInt8), b.length ≤ n → ∃ k, k ≤ b.length ∧ restP b = b.drop k
  | 0, b, h => ⟨0, by omega, by
      have : b = [] := List.length_eq_zero_iff.1 (by omega)
      subst this
      exact restP_end (by decide)⟩
  | n + 1, b, h => by
    by_cases e : tkE b = 0
    · have q := tk_len e
      obtain ⟨k, h1, h2⟩ := rest_suf n (b.drop (tkN b)) (by simp only [List.length_drop]; omega)
      simp only [List.length_drop] at h1
      exact ⟨tkN b + k, by omega, by rw [restP_ok e, h2, List.drop_drop]⟩
    · exact ⟨0, by omega, restP_end e⟩
def endAt (b : List UInt8) : Nat := b.length - (restP b).length
def endC (b : List UInt8) : Nat := if endAt b = b.length then 0 else tkE (restP b)
theorem rest_at' (b : List UInt8) : endAt b ≤ b.length ∧ restP b = b.drop (endAt b) := by
  obtain ⟨k, h1, h2⟩ := rest_suf _ b (Nat.le_refl _)
  have e : endAt b = k := by unfold endAt; rw [h2, List.length_drop]; omega
  rw [e]; exact ⟨h1, h2⟩
theorem end_P (b : List UInt8) (g : G) (hb : b.length < 4294967200) {h : Heap} :
    Gives Tryz.prog 118 [.sl 1 (bs b) g] h (.tup [.int .i64 (endAt b), .int .i64 (endC b)]) h := by
  refine c118 rfl ?_
  repeat' (first | ((with_reducible apply Nx.mk); conv => whnf) | ((with_reducible apply Js.Fin.mk); (with_reducible apply Nx.mk); conv => whnf) | ((with_reducible apply RdH.i); (next => ((repeat (first | exact hp_same _ _ _ | fail)); (first | done | fail)))) | ((with_reducible apply New.i); intro l hl) | ((with_reducible apply Up.i); (next => first | exact upd_upd _ _ _ _ | fail)) | refine i163 rfl ?_ | fail)
  rename_i p0 hp0
  revert l; intro pb hpb
  refine RangeS.via (fun l R h' => h' = (((h.upd p0 (.cells [.int .i64 (endAt b)])).upd pb (.cells [.sl 1 (bs b) g])).upd l (R .ready))) rfl n181 ?_ ?_
  · intro l hl
    have n1 : p0 ≠ pb := (none_ne hpb).symm
    have n2 : p0 ≠ l := (none_ne (none_of hl)).symm
    have n3 : pb ≠ l := (none_ne hl).symm
    refine c181 rfl ?_
    repeat' (first | ((with_reducible apply Nx.mk); conv => whnf) | fail)
    refine loopS (σ := Nat × V) (fun s => frm 28 [(0, .fn (.yield l) [] []), (1, .ptr pb 0), (3, .int .i64 s.1), (27, s.2)]) (fun _ => []) (fun s => b.length - s.1)
      (fun s h' => h' = (((h.upd p0 (.cells [.int .i64 s.1])).upd pb (.cells [.sl 1 (bs b) g])).upd l _) ∧ s.1 ≤ b.length ∧ restP (b.drop s.1) = restP b) (0, .undef) rfl ⟨rfl, by simp, by simp⟩ ?_
    rintro ⟨a, v⟩ h' ⟨rfl, k1, k2⟩
    simp only at k1 k2 ⊢
    have q := tkN_le (b.drop a)
    simp only [List.length_drop] at q
    repeat' (first | ((with_reducible apply Nx.mk); conv => whnf) | ((with_reducible apply Js.Fin.mk); (with_reducible apply Nx.mk); conv => whnf) | ((with_reducible apply RdC.i); (next => ((repeat (first | exact hp_same _ _ _ | refine hp_ne (by first | with_reducible assumption | fail) ?_ | fail)); (first | done | fail))); (next => first | rfl | fail)) | ((with_reducible apply RdH.i); (next => ((repeat (first | exact hp_same _ _ _ | refine hp_ne (by first | with_reducible assumption | fail) ?_ | fail)); (first | done | fail)))) | ((with_reducible first | apply brS_i | apply spB_i) <;> intro c <;> (try exact absurd c (by decide)) <;> (try simp only [decide_eq_true_eq, decide_eq_false_iff_not, beq_iff_eq, bne_iff_ne, Bool.not_eq_true', Bool.not_eq_false', beq_eq_false_iff_ne, Bool.not_true, Bool.not_false, reduceCtorEq, ne_eq, bne_eq_false_iff_eq, Int.not_lt, Int.not_le, Decidable.not_not] at c) <;> (try (exfalso; omega))) | ((with_reducible apply Nm.i); (next => first | with_reducible exact bs_len _ | fail)) | ((with_reducible apply Wr.i); (next => first | with_reducible exact wn_add (by omega) | fail)) | ((with_reducible apply Part.i); (next => first | with_reducible rfl | fail); (next => first | with_reducible rfl | fail); (next => omega); (next => first | omega | fail); (next => first | with_reducible exact bs_to _ _ | fail)) | ((with_reducible apply Up.i); (next => first | exact up_by (by first | with_reducible assumption | fail) (up_by (by first | with_reducible assumption | fail) (upd_upd _ _ _ _)) | fail)) | ((with_reducible apply HN.i); (next => first | exact upd_upd _ _ _ _ | rfl | fail)) | refine (fV_i ?_) | refine CallS.gives n114 (take_g _ _ (by simp only [List.length_drop]; omega)) ?_ | ((with_reducible apply RdL.i); (next => ((repeat (first | exact hp_same _ _ _ | fail)); (first | done | fail)))) | (refine YieldS.go mix ⟨[4], [], true⟩ rfl (by ((repeat (first | exact hp_same _ _ _ | fail)); (first | done | fail))) (by rfl) ?_) | with_reducible intro _ | fail)
    · refine Js.Fin.mk ?_
      have e : endAt b = a := by
        unfold endAt
        rw [← k2, restP_end (by omega), List.length_drop]; omega
      rw [e]
    · have e : tkE (b.drop a) = 0 := by omega
      have q2 := tk_len e
      refine Js.Fin.mk ⟨(a + tkN (b.drop a), .bool false), rfl, ⟨rfl, by simp only; omega, ?_⟩, by simp only; omega⟩
      simp only
      rw [← k2, restP_ok e, List.drop_drop]
  · intro l hl R hR h' e
    subst e
    refine ⟨.normal, _, ⟨.ready, by ((repeat (first | exact hp_same _ _ _ | fail)); (first | done | fail)), .inl ⟨rfl, rfl⟩⟩, del_upd (none_up (none_up (none_of (none_of hl)) (none_ne (none_of hl))) (none_ne hl)), ?_⟩
    clear R hR hl l
    obtain ⟨q1, q2⟩ := rest_at' b
    repeat' (first | ((with_reducible apply Nx.mk); conv => whnf) | ((with_reducible apply RdC.i); (next => ((repeat (first | exact hp_same _ _ _ | refine hp_ne (by first | exact (none_ne (by with_reducible assumption)).symm | fail) ?_ | fail)); (first | done | fail))); (next => first | rfl | fail)) | ((with_reducible first | apply brS_i | apply spB_i) <;> intro c <;> (try exact absurd c (by decide)) <;> (try simp only [decide_eq_true_eq, decide_eq_false_iff_not, beq_iff_eq, bne_iff_ne, Bool.not_eq_true', Bool.not_eq_false', beq_eq_false_iff_ne, Bool.not_true, Bool.not_false, reduceCtorEq, ne_eq, bne_eq_false_iff_eq, Int.not_lt, Int.not_le, Decidable.not_not] at c) <;> (try (exfalso; omega))) | ((with_reducible apply Nm.i); (next => first | with_reducible exact bs_len _ | fail)) | ((with_reducible apply Part.i); (next => first | with_reducible rfl | fail); (next => first | with_reducible rfl | fail); (next => omega); (next => first | omega | fail); (next => first | with_reducible exact bs_to _ _ | fail)) | ((with_reducible apply HN.i); (next => first | rfl | fail)) | refine CallS.gives n114 (take_g _ _ (by simp only [List.length_drop]; omega)) ?_ | fail)
    · refine Js.Fin.mk ⟨?_, by (repeat (first | exact Heap.sub_rfl _ | refine sub_new (by (repeat (first | with_reducible assumption | exact none_of (by with_reducible assumption) | fail))) ?_ | fail))⟩
      unfold endC
      rw [if_pos (by omega)]
      exact .rfl _
    · refine Js.Fin.mk ⟨?_, by (repeat (first | exact Heap.sub_rfl _ | refine sub_new (by (repeat (first | with_reducible assumption | exact none_of (by with_reducible assumption) | fail))) ?_ | fail))⟩
      unfold endC
      rw [if_neg (by omega), q2]
      exact .rfl _
end J
end

section
/- A file is read. -/
namespace J
open Go Go.Proofs Jb Js
set_option maxRecDepth 100000
set_option maxHeartbeats 4000000




structure Lg (h : Heap) (p : Nat) (F : Ent) (L : List Ent) (g : G) : Prop where
  at' : h p = some (.cells [.int .u64 F.ix, .int .u64 F.tm, .sl 1 [] .full, .sl 3 (es L) g])
  slot : ∀ s, g = .own s → h s = some (.grow 3 L.length)
  yes : g ≠ .no
structure Kp (p : Nat) (h : Heap) (g : G) (h2 : Heap) (g' : G) : Prop where
  keep : ∀ x o, x ≠ p → g ≠ .own x → h x = some o → h2 x = some o
  slot : ∀ s, g' = .own s → g = .own s ∨ h s = none
theorem Kp.rfl' (p : Nat) (h : Heap) (g : G) : Kp p h g h g := ⟨fun _ _ _ _ e => e, fun _ e => .inl e⟩
theorem Kp.trans {p : Nat} {h h2 h3 : Heap} {g g' g2 : G} {o : Ob} (a : Kp p h g h2 g') (hp : h2 p = some o) (b : Kp p h2 g' h3 g2) : Kp p h g h3 g2 := by
  refine ⟨fun x o hx hg e => b.keep x o hx (fun q => ?_) (a.keep x o hx hg e), fun s e => ?_⟩
  · rcases a.slot x q with h1 | h1
    · exact hg h1
    · rw [h1] at e; cases e
  · rcases b.slot s e with h1 | h1
    · exact a.slot s h1
    · by_cases hg : g = .own s
      · exact .inl hg
      · refine .inr ?_
        cases hs : h s with
        | none => rfl
        | some o =>
          by_cases hx : s = p
          · subst hx; rw [hp] at h1; cases h1
          · rw [a.keep s o hx hg hs] at h1; cases h1
theorem Kp.other {p x : Nat} {h : Heap} {g : G} {o o2 : Ob} (hg : g ≠ .own x) : Kp p (h.upd x o) g ((h.upd x o).upd x o2) g → True := fun _ => trivial
theorem hp_keep {p x : Nat} {h h2 : Heap} {F : Ent} {L : List Ent} {g g' : G} {o : Ob} (k : Kp p h g h2 g') (l : Lg h p F L g) (hx : x ≠ p) (hb : o.blk = true) (e : h x = some o) : h2 x = some o :=
  k.keep x o hx (fun q => by rw [l.slot x q] at e; cases e; cases hb) e
theorem lgs_new {p x : Nat} {h : Heap} {F : Ent} {L : List Ent} {g : G} {o : Ob} (hn : h x = none) (l : Lg h p F L g) : Lg (h.upd x o) p F L g := ⟨hp_new hn l.at', fun s e => hp_new hn (l.slot s e), l.yes⟩
structure HasB (h : Heap) (x : Nat) : Prop where
  out : ∃ o, h x = some o ∧ o.blk = true
theorem hasb_c {h : Heap} {x : Nat} {cs : List V} (e : h x = some (.cells cs)) : HasB h x := ⟨_, e, rfl⟩
theorem hasb_o {h : Heap} {x : Nat} {q : OQ} (e : h x = some (.obj q)) : HasB h x := ⟨_, e, rfl⟩
theorem hasb_u {h : Heap} {x l : Nat} {o : Ob} (hb : o.blk = true) (e : HasB h x) : HasB (h.upd l o) x := by
  by_cases hx : x = l
  · subst hx; exact ⟨o, hp_same _ _ _, hb⟩
  · obtain ⟨o2, e1, e2⟩ := e; exact ⟨o2, hp_ne hx e1, e2⟩
theorem hasb_uc {h : Heap} {x l : Nat} {cs : List V} (e : HasB h x) : HasB (h.upd l (.cells cs)) x := hasb_u rfl e
theorem hasb_uo {h : Heap} {x l : Nat} {q : OQ} (e : HasB h x) : HasB (h.upd l (.obj q)) x := hasb_u rfl e
theorem hasb_so (h : Heap) (x : Nat) (q : OQ) : HasB (h.upd x (.obj q)) x := ⟨_, hp_same _ _ _, rfl⟩
theorem lgs_upd {p x : Nat} {h : Heap} {F : Ent} {L : List Ent} {g : G} {o2 : Ob} (hx : x ≠ p) (e : HasB h x) (l : Lg h p F L g) : Lg (h.upd x o2) p F L g := by
  obtain ⟨o, e, hb⟩ := e
  exact ⟨hp_ne hx.symm l.at', fun s q => hp_ne (by rintro rfl; rw [l.slot _ q] at e; cases e; cases hb) (l.slot s q), l.yes⟩
theorem kp_new {p x : Nat} {h0 h : Heap} {g0 g : G} {o : Ob} (hn : h x = none) (k : Kp p h0 g0 h g) : Kp p h0 g0 (h.upd x o) g := ⟨fun y v hy hg e => hp_new hn (k.keep y v hy hg e), k.slot⟩
theorem kp_upd {p x : Nat} {h0 h : Heap} {g0 g : G} {o : Ob} (hn : h0 x = none) (k : Kp p h0 g0 h g) : Kp p h0 g0 (h.upd x o) g := ⟨fun y v hy hg e => hp_ne (by rintro rfl; rw [hn] at e; cases e) (k.keep y v hy hg e), k.slot⟩
theorem kp_del {p x : Nat} {h0 h : Heap} {g0 g : G} (hn : h0 x = none) (k : Kp p h0 g0 h g) : Kp p h0 g0 (h.del x) g := ⟨fun y v hy hg e => by
  have : y ≠ x := by rintro rfl; rw [hn] at e; cases e
  simp only [Heap.del, if_neg this]
  exact k.keep y v hy hg e, k.slot⟩
theorem lgs_del {p x : Nat} {h : Heap} {F : Ent} {L : List Ent} {g : G} {o : Ob} (hx : x ≠ p) (e : h x = some o) (hb : o.blk = true) (l : Lg h p F L g) : Lg (h.del x) p F L g :=
  ⟨by simp only [Heap.del, if_neg hx.symm]; exact l.at', fun s q => by
    have : s ≠ x := by rintro rfl; rw [l.slot _ q] at e; cases e; cases hb
    simp only [Heap.del, if_neg this]; exact l.slot s q, l.yes⟩
def lessG (h : Heap) (g : G) : Heap := match g with | .own s => h.del s | _ => h
theorem lg_form {h : Heap} {p : Nat} {F : Ent} {L : List Ent} {g : G} (l : Lg h p F L g) : lgH (lessG h g) p F L g = h ∧ Fre (lessG h g) p g := by
  have e1 : ∀ s, g = .own s → s ≠ p := by
    rintro s e rfl
    have := l.slot s e; rw [l.at'] at this; cases this
  refine ⟨?_, ⟨fun s e => ⟨?_, e1 s e⟩, l.yes⟩⟩
  · funext x
    unfold lgH gr lessG
    cases g with
    | own s =>
      simp only
      by_cases hx : x = s
      · subst hx; rw [hp_same]; exact (l.slot _ rfl).symm
      · rw [upd_ne _ _ hx]
        by_cases hp : x = p
        · subst hp; rw [hp_same]; exact l.at'.symm
        · rw [upd_ne _ _ hp]; simp only [Heap.del, if_neg hx]
    | full =>
      simp only
      by_cases hp : x = p
      · subst hp; rw [hp_same]; exact l.at'.symm
      · rw [upd_ne _ _ hp]
    | no => exact (l.yes rfl).elim
  · subst e; simp [lessG, Heap.del]
theorem form_lg {hb : Heap} {p : Nat} {F : Ent} {L : List Ent} {g : G} (f : Fre hb p g) : Lg (lgH hb p F L g) p F L g := ⟨lg_at f, fun s e => by subst e; exact hp_same _ _ _, f.yes⟩
theorem form_kp {h : Heap} {p : Nat} {F F' : Ent} {L L' : List Ent} {g g' : G} (l : Lg h p F L g) (f : Fre (lessG h g) p g') : Kp p h g (lgH (lessG h g) p F' L' g') g' := by
  refine ⟨fun x o hx hg e => lg_ne f hx ?_, fun s e => ?_⟩
  · unfold lessG
    cases g with
    | own s => simp only [Heap.del]; rw [if_neg (by rintro rfl; exact hg rfl)]; exact e
    | _ => exact e
  · have := (f.own s e).1
    unfold lessG at this
    cases g with
    | own t =>
      simp only [Heap.del] at this
      split at this
      · rename_i q; subst q; exact .inl rfl
      · exact .inr this
    | _ => exact .inr this
structure KB (p : Nat) (h h2 : Heap) : Prop where
  out : ∀ x o, x ≠ p → o.blk = true → h x = some o → h2 x = some o
theorem hasb_kb {p x : Nat} {h h2 : Heap} (k : KB p h h2) (hx : x ≠ p) (e : HasB h x) : HasB h2 x := by
  obtain ⟨o, e, hb⟩ := e; exact ⟨o, k.out x o hx hb e, hb⟩
theorem hp_kb {p x : Nat} {h h2 : Heap} {o : Ob} (k : KB p h h2) (hx : x ≠ p) (e : h x = some o) (hb : o.blk = true) : h2 x = some o := k.out x o hx hb e
theorem blk_c (cs : List V) : (Ob.cells cs).blk = true := rfl
theorem blk_o (q : OQ) : (Ob.obj q).blk = true := rfl
theorem CallS.givesK {f : FuncId} {args : List V} {h : Heap} {p : Nat} {F : Ent} {L : List Ent} {g : G} {r : V} {F' : Ent} {L' : List Ent} {K : V → Heap → Prop} (he : enters Tryz.prog f = true) (l : Lg h p F L g) (c : Fre (lessG h g) p g → GivesL f args (lessG h g) p F L g r F' L')
    (m : ∀ g' h2, Lg h2 p F' L' g' → Kp p h g h2 g' → KB p h h2 → Nx (K r h2)) : CallS Tryz.prog f args h K := by
  obtain ⟨e, fr⟩ := lg_form l
  have := CallS.givesL (K := K) he (c fr) fun g' hg' => m g' _ (form_lg hg') (form_kp l hg') ⟨fun x o hx hb e => hp_keep (form_kp l hg') l hx hb e⟩
  rw [e] at this; exact this

theorem kp_none {p l : Nat} {h H : Heap} {F : Ent} {L : List Ent} {g : G} (k : Kp p h g H g) (a : Lg H p F L g) (e : H l = none) : h l = none := by
  cases hl : h l with
  | none => rfl
  | some o =>
    have h1 : l ≠ p := by rintro rfl; rw [a.at'] at e; cases e
    have h2 : g ≠ .own l := fun q => by rw [a.slot l q] at e; cases e
    rw [k.keep l o h1 h2 hl] at e; cases e

structure FS where
  F : Ent
  L : List Ent
  begun : Bool
  own : Nat
def bgOk (s : FS) (old : Bool) (b : List UInt8) : Bool := old || hdNew b || toOk s.F s.L (hdIx b) (hdTm b)
def step1 (old : Bool) (s : FS) (k : Nat) (b : List UInt8) : Option FS :=
  if k = 1 then (if (hdOk 1 b && !s.begun && bgOk s old b) = true then some ⟨if (old || hdNew b) = true then ⟨hdIx b, hdTm b, []⟩ else s.F, if (old || hdNew b) = true then [] else toL s.F s.L (hdIx b) (hdTm b), true, hdIx b⟩ else none)
  else if k = 2 then (if adOk s.F s.L b = true then some { s with L := adL s.F s.L b } else none)
  else if k = 3 then (if ctOk s.F s.L s.own b = true then some { s with L := ctL s.F s.L s.own b } else none)
  else none
def steps (old : Bool) (s : FS) (b : List UInt8) : Option FS :=
  if h : tkE b = 0 then (match step1 old s (tkK b) (tkB b) with | none => none | some t => steps old t (b.drop (tkN b))) else some s
  termination_by b.length
  decreasing_by have := tk_len h; simp only [List.length_drop]; omega
theorem steps_go {old : Bool} {s : FS} {b : List UInt8} (h : tkE b = 0) : steps old s b = (match step1 old s (tkK b) (tkB b) with | none => none | some t => steps old t (b.drop (tkN b))) := by rw [steps.eq_1 old s b]; exact dif_pos h
theorem steps_end {old : Bool} {s : FS} {b : List UInt8} (h : tkE b ≠ 0) : steps old s b = some s := by rw [steps]; exact dif_neg h
theorem step_no1 {old : Bool} {s : FS} {k : Nat} {b : List UInt8} (hk : k = 1) (h : hdOk k b = false ∨ s.begun = true ∨ (old || hdNew b || toOk s.F s.L (hdIx b) (hdTm b)) = false) : step1 old s k b = none := by
  subst hk
  unfold step1 bgOk
  rw [if_pos rfl, if_neg]
  rcases h with h | h | h <;> simp [h]
theorem step_1 {old : Bool} {s : FS} {k : Nat} {b : List UInt8} (hk : k = 1) (h1 : hdOk k b = true) (h2 : s.begun = false) (h3 : (old || hdNew b || toOk s.F s.L (hdIx b) (hdTm b)) = true) :
    step1 old s k b = some ⟨if (old || hdNew b) = true then ⟨hdIx b, hdTm b, []⟩ else s.F, if (old || hdNew b) = true then [] else toL s.F s.L (hdIx b) (hdTm b), true, hdIx b⟩ := by
  subst hk
  unfold step1 bgOk
  rw [if_pos rfl, if_pos (by rw [h1, h2, h3]; rfl)]
theorem step_no2 {old : Bool} {s : FS} {k : Nat} {b : List UInt8} (hk : k = 2) (h : adOk s.F s.L b = false) : step1 old s k b = none := by
  subst hk; unfold step1; rw [if_neg (by decide), if_pos rfl, if_neg (by rw [h]; decide)]
theorem step_2 {old : Bool} {s : FS} {k : Nat} {b : List UInt8} (hk : k = 2) (h : adOk s.F s.L b = true) : step1 old s k b = some { s with L := adL s.F s.L b } := by
  subst hk; unfold step1; rw [if_neg (by decide), if_pos rfl, if_pos h]
theorem step_no3 {old : Bool} {s : FS} {k : Nat} {b : List UInt8} (hk : k = 3) (h : ctOk s.F s.L s.own b = false) : step1 old s k b = none := by
  subst hk; unfold step1; rw [if_neg (by decide), if_neg (by decide), if_pos rfl, if_neg (by rw [h]; decide)]
theorem step_3 {old : Bool} {s : FS} {k : Nat} {b : List UInt8} (hk : k = 3) (h : ctOk s.F s.L s.own b = true) : step1 old s k b = some { s with L := ctL s.F s.L s.own b } := by
  subst hk; unfold step1; rw [if_neg (by decide), if_neg (by decide), if_pos rfl, if_pos h]
theorem step_no {old : Bool} {s : FS} {k : Nat} {b : List UInt8} (h1 : k ≠ 1) (h2 : k ≠ 2) (h3 : k ≠ 3) : step1 old s k b = none := by
  unfold step1; rw [if_neg h1, if_neg h2, if_neg h3]
structure Wf (s : FS) (b : List UInt8) (m : Nat) : Prop where
  nob : s.F.b = []
  ixs : ∀ i, i < s.L.length → (ea s.L i).ix = s.F.ix + 1 + i
  len : s.L.length + b.length ≤ m
  own : s.own < 18446744073709551616
theorem Wf.last {s : FS} {b : List UInt8} {m : Nat} (w : Wf s b m) : (lastE s.F s.L).ix = s.F.ix + s.L.length := lastE_ix w.ixs
theorem ea_take {l : List Ent} {k i : Nat} (h : i < (l.take k).length) : ea (l.take k) i = ea l i := by
  simp only [List.length_take] at h
  simp [ea, List.getElem?_take, show i < k from by omega]
theorem toL_pre (F : Ent) (L : List Ent) (a b : Nat) : ∃ k, toL F L a b = L.take k := by
  unfold toL
  split
  · exact ⟨0, by simp⟩
  · split
    · exact ⟨_, rfl⟩
    · exact ⟨L.length, by simp⟩
theorem Wf.step {old : Bool} {s t : FS} {b : List UInt8} {m : Nat} (w : Wf s b m) (h : tkE b = 0) (e : step1 old s (tkK b) (tkB b) = some t) : Wf t (b.drop (tkN b)) m := by
  have q := tk_len h
  have hl : (b.drop (tkN b)).length = b.length - tkN b := List.length_drop
  have w3 := w.len
  have pre : ∀ k, Wf { s with L := s.L.take k } (b.drop (tkN b)) m := fun k => ⟨w.nob, fun i hi => by
    have := hi; simp only [List.length_take] at this
    simp only at hi ⊢; rw [ea_take hi]; exact w.ixs i (by omega), by simp only [List.length_take, hl]; omega, w.own⟩
  unfold step1 at e
  split at e
  · split at e
    · cases e
      have ho : hdIx (tkB b) < 18446744073709551616 := by have := natV_le 4611686018427387904 (hd2 (tkB b)); unfold hdIx; omega
      split
      · exact ⟨rfl, fun i hi => by simp at hi, by simp only [List.length_nil, hl]; omega, ho⟩
      · obtain ⟨k, hk⟩ := toL_pre s.F s.L (hdIx (tkB b)) (hdTm (tkB b))
        rw [hk]
        exact ⟨(pre k).nob, (pre k).ixs, (pre k).len, ho⟩
    · cases e
  · split at e
    · split at e
      · rename_i ha
        cases e
        unfold adL
        rw [if_pos ha]
        unfold adOk at ha
        simp only [Bool.and_eq_true, beq_iff_eq, bne_iff_ne, decide_eq_true_eq, ne_eq] at ha
        have hx := w.last
        refine ⟨w.nob, fun i hi => ?_, by simp only [List.length_append, List.length_singleton, hl]; omega, w.own⟩
        simp only [List.length_append, List.length_singleton] at hi
        by_cases hi2 : i < s.L.length
        · have : ea (s.L ++ [adEnt (tkB b)]) i = ea s.L i := by simp [ea, List.getElem?_append_left hi2]
          simp only; rw [this]; exact w.ixs i hi2
        · have hi3 : i = s.L.length := by omega
          subst hi3
          have : ea (s.L ++ [adEnt (tkB b)]) s.L.length = adEnt (tkB b) := by simp [ea]
          simp only; rw [this]; omega
      · cases e
    · split at e
      · split at e
        · rename_i hc
          cases e
          unfold ctL
          rw [if_pos hc]
          exact pre _
        · cases e
      · cases e
theorem c106 {args : List V} {h : Heap} {K : V → Heap → Prop} (hn : Nat.ble args.length Tryz.f106.ntmps = true) (e : Nx (bodyS Tryz.prog ⟨[4, 6, 8, 9, 10, 14], [], false⟩ Tryz.f106 args h K)) : CallW Tryz.prog 106 args h K := CallW.go mix _ Tryz.func106 (Nat.le_of_ble_eq_true hn) rfl e
theorem n106 : enters Tryz.prog 106 = true := by kernel_rfl
theorem read_c {h : Heap} {p : Nat} {s : FS} {g : G} (l : Lg h p s.F s.L g) (hs : s.begun = false) (ho : s.own = 0) (b : List UInt8) (g0 : G) (old new : Bool) (w : Wf s b 4294967100) :
    CallW Tryz.prog 106 [.ptr p 0, .sl 1 (bs b) g0, .bool old, .bool new] h fun r' h' => ∃ (g' : G) (h2 : Heap) (F' : Ent) (L' : List Ent) (ok : Bool),
      Lg h2 p F' L' g' ∧ Kp p h g h2 g' ∧ h2.Sub h' ∧ r' = .bool ok ∧ (match steps old s b with | some t => ok = (endC b == 0 || (endC b == 31 && new)) ∧ F' = t.F ∧ L' = t.L | none => ok = false) := by
  refine c106 rfl ?_
  repeat' (first | ((with_reducible apply Nx.mk); conv => whnf) | ((with_reducible apply Js.Fin.mk); (with_reducible apply Nx.mk); conv => whnf) | ((with_reducible apply RdH.i); (next => ((repeat (first | exact hp_same _ _ _ | refine hp_new (by with_reducible assumption) ?_ | fail)); (first | done | fail)))) | ((with_reducible apply New.i); intro l hl) | ((with_reducible apply Up.i); (next => first | exact upd_upd _ _ _ _ | exact up_by (by first | exact (none_ne (by with_reducible assumption)).symm | fail) (upd_upd _ _ _ _) | fail)) | refine i145 rfl ?_ | fail)
  rename_i lg a4 h4 a6 h6 a8 h8 a9 h9 a10 h10
  revert l; intro e he
  have u4 := h4
  have u6 := none_of h6
  have u8 := none_of (none_of h8)
  have u9 := none_of (none_of (none_of h9))
  have u10 := none_of (none_of (none_of (none_of h10)))
  have ue := none_of (none_of (none_of (none_of (none_of he))))
  have d6 : a6 ≠ a4 := none_ne h6
  have d8 : a8 ≠ a4 ∧ a8 ≠ a6 := ⟨none_ne (none_of h8), none_ne h8⟩
  have d9 : a9 ≠ a4 ∧ a9 ≠ a6 ∧ a9 ≠ a8 := ⟨none_ne (none_of (none_of h9)), none_ne (none_of h9), none_ne h9⟩
  have d10 : a10 ≠ a4 ∧ a10 ≠ a6 ∧ a10 ≠ a8 ∧ a10 ≠ a9 := ⟨none_ne (none_of (none_of (none_of h10))), none_ne (none_of (none_of h10)), none_ne (none_of h10), none_ne h10⟩
  have de : e ≠ a4 ∧ e ≠ a6 ∧ e ≠ a8 ∧ e ≠ a9 ∧ e ≠ a10 := ⟨none_ne (none_of (none_of (none_of (none_of he)))), none_ne (none_of (none_of (none_of he))), none_ne (none_of (none_of he)), none_ne (none_of he), none_ne he⟩
  obtain ⟨d81, d82⟩ := d8
  obtain ⟨d91, d92, d93⟩ := d9
  obtain ⟨d101, d102, d103, d104⟩ := d10
  obtain ⟨de1, de2, de3, de4, de5⟩ := de
  have p4 : a4 ≠ p := (ne_fresh u4 lg.at').symm
  have p6 : a6 ≠ p := (ne_fresh u6 lg.at').symm
  have p8 : a8 ≠ p := (ne_fresh u8 lg.at').symm
  have p9 : a9 ≠ p := (ne_fresh u9 lg.at').symm
  have p10 : a10 ≠ p := (ne_fresh u10 lg.at').symm
  have pe : e ≠ p := (ne_fresh ue lg.at').symm
  generalize hH : ((((((h.upd a4 (.cells [.ptr p 0])).upd a6 (.cells [.bool old])).upd a8 (.cells [.bool false])).upd a9 (.cells [.bool false])).upd a10 (.cells [.int .u64 0])).upd e (.cells [.sl 1 (bs b) g0])) = H
  have v4 : H a4 = some (.cells [.ptr p 0]) := by rw [← hH]; ((repeat (first | exact hp_same _ _ _ | refine hp_new (by with_reducible assumption) ?_ | fail)); (first | done | fail))
  have v6 : H a6 = some (.cells [.bool old]) := by rw [← hH]; ((repeat (first | exact hp_same _ _ _ | refine hp_new (by with_reducible assumption) ?_ | fail)); (first | done | fail))
  have v8 : H a8 = some (.cells [.bool false]) := by rw [← hH]; ((repeat (first | exact hp_same _ _ _ | refine hp_new (by with_reducible assumption) ?_ | fail)); (first | done | fail))
  have v9 : H a9 = some (.cells [.bool false]) := by rw [← hH]; ((repeat (first | exact hp_same _ _ _ | refine hp_new (by with_reducible assumption) ?_ | fail)); (first | done | fail))
  have v10 : H a10 = some (.cells [.int .u64 0]) := by rw [← hH]; ((repeat (first | exact hp_same _ _ _ | refine hp_new (by with_reducible assumption) ?_ | fail)); (first | done | fail))
  have ve : H e = some (.cells [.sl 1 (bs b) g0]) := by rw [← hH]; ((repeat (first | exact hp_same _ _ _ | fail)); (first | done | fail))
  have lH : Lg H p s.F s.L g := by rw [← hH]; ((repeat (first | with_reducible assumption | ((with_reducible apply lgs_new); (next => with_reducible assumption)) | fail)); (first | done | fail))
  have kH : Kp p h g H g := by rw [← hH]; ((repeat (first | exact Kp.rfl' _ _ _ | refine kp_new (by with_reducible assumption) ?_ | fail)); (first | done | fail))
  clear hH he h10 h9 h8 h6 h4
  refine RangeS.via (fun l R h' => ∃ (g' : G) (F' : Ent) (L' : List Ent) (ok : Bool), h' l = some (R (match ok with | true => .ready | false => .done .ret)) ∧ Lg h' p F' L' g' ∧ Kp p h g h' g' ∧ h' a8 = some (.cells [.bool false]) ∧ (match steps old s b with | some t => ok = true ∧ F' = t.F ∧ L' = t.L | none => ok = false)) rfl n176 ?_ ?_
  · intro l hl
    have ul : h l = none := kp_none kH lH hl
    have n4 : l ≠ a4 := (ne_fresh hl v4).symm
    have n6 : l ≠ a6 := (ne_fresh hl v6).symm
    have n8 : l ≠ a8 := (ne_fresh hl v8).symm
    have n9 : l ≠ a9 := (ne_fresh hl v9).symm
    have n10 : l ≠ a10 := (ne_fresh hl v10).symm
    have ne : l ≠ e := (ne_fresh hl ve).symm
    have np : l ≠ p := (ne_fresh hl lH.at').symm
    refine c176 rfl ?_
    repeat' (first | ((with_reducible apply Nx.mk); conv => whnf) | ((with_reducible apply RdC.i); (next => ((repeat (first | with_reducible assumption | refine hp_new (by with_reducible assumption) ?_ | fail)); (first | done | fail))); (next => first | rfl | fail)) | fail)
    refine loopS (σ := FS × List UInt8 × G) (fun x => frm 28 [(0, .fn (.yield l) [] []), (3, .sl 1 (bs x.2.1) x.2.2)]) (fun _ => []) (fun x => x.2.1.length)
      (fun x h' => ∃ g', Lg h' p x.1.F x.1.L g' ∧ Kp p h g h' g' ∧ h' a4 = some (.cells [.ptr p 0]) ∧ h' a6 = some (.cells [.bool old]) ∧ h' a8 = some (.cells [.bool false]) ∧ h' a9 = some (.cells [.bool x.1.begun]) ∧ h' a10 = some (.cells [.int .u64 x.1.own]) ∧ h' l = some _ ∧ Wf x.1 x.2.1 4294967100 ∧ steps old x.1 x.2.1 = steps old s b)
      (s, b, g0) rfl ⟨g, by ((repeat (first | with_reducible assumption | ((with_reducible apply lgs_new); (next => with_reducible assumption)) | fail)); (first | done | fail)), by ((repeat (first | with_reducible assumption | refine kp_new (by with_reducible assumption) ?_ | fail)); (first | done | fail)), by ((repeat (first | with_reducible assumption | refine hp_new (by with_reducible assumption) ?_ | fail)); (first | done | fail)), by ((repeat (first | with_reducible assumption | refine hp_new (by with_reducible assumption) ?_ | fail)); (first | done | fail)), by ((repeat (first | with_reducible assumption | refine hp_new (by with_reducible assumption) ?_ | fail)); (first | done | fail)), by rw [hs]; ((repeat (first | with_reducible assumption | refine hp_new (by with_reducible assumption) ?_ | fail)); (first | done | fail)), by rw [ho]; exact hp_new hl v10, hp_same _ _ _, w, rfl⟩ ?_
    rintro ⟨s1, b1, g1⟩ h1 ⟨g2, lg1, k1, w4, w6, w8, w9, w10, wl, w1, e1⟩
    simp only at lg1 w9 w10 w1 e1 ⊢
    have q := tkN_le b1
    have q1 := tkB_len b1
    have w2 := w1.len
    have w3 := w1.own
    repeat' (first | ((with_reducible apply Nx.mk); conv => whnf) | ((with_reducible apply Js.Fin.mk); (with_reducible apply Nx.mk); conv => whnf) | ((with_reducible apply RdC.i); (next => ((repeat (first | with_reducible assumption | exact hp_same _ _ _ | refine hp_new (by with_reducible assumption) ?_ | refine hp_ne (by first | with_reducible assumption | exact Ne.symm (by with_reducible assumption) | exact (ne_has (by with_reducible assumption) (by ((repeat (first | exact has_of (by with_reducible assumption) | with_reducible refine has_upd ?_ | fail)); (first | done | fail)))).symm | fail) ?_ | ((with_reducible apply hp_kb); (next => with_reducible assumption); (next => first | exact (ne_has (by with_reducible assumption) (by ((repeat (first | with_reducible refine has_upd ?_ | exact has_of (Lg.at' (by with_reducible assumption)) | fail)); (first | done | fail)))).symm | fail)) | with_reducible exact blk_c _ | fail)); (first | done | fail))); (next => first | rfl | fail)) | ((with_reducible apply RdH.i); (next => ((repeat (first | with_reducible assumption | exact hp_same _ _ _ | refine hp_new (by with_reducible assumption) ?_ | refine hp_ne (by first | with_reducible assumption | exact Ne.symm (by with_reducible assumption) | fail) ?_ | ((with_reducible apply hp_kb); (next => with_reducible assumption); (next => first | with_reducible assumption | fail)) | with_reducible exact blk_c _ | fail)); (first | done | fail)))) | ((with_reducible first | apply brS_i | apply spB_i) <;> intro c <;> (try exact absurd c (by decide)) <;> (try simp only [decide_eq_true_eq, decide_eq_false_iff_not, beq_iff_eq, bne_iff_ne, Bool.not_eq_true', Bool.not_eq_false', beq_eq_false_iff_ne, Bool.not_true, Bool.not_false, reduceCtorEq, ne_eq, bne_eq_false_iff_eq, Int.not_lt, Int.not_le, Decidable.not_not] at c) <;> (try (exfalso; omega))) | ((with_reducible apply Nm.i); (next => first | with_reducible exact bs_len _ | fail)) | ((with_reducible apply Part.i); (next => first | with_reducible rfl | fail); (next => first | with_reducible rfl | fail); (next => omega); (next => first | omega | fail); (next => first | with_reducible exact bs_to _ _ | fail)) | ((with_reducible apply New.i); intro l hl) | ((with_reducible apply Up.i); (next => first | exact upd_upd _ _ _ _ | rfl | fail)) | ((with_reducible apply HN.i); (next => first | exact up_by (by first | with_reducible assumption | fail) (upd_upd _ _ _ _) | rfl | fail)) | ((with_reducible apply Plan.i); (next => kernel_rfl); (next => kernel_rfl)) | refine CallS.gives n114 (take_g _ _ (by omega)) ?_ | refine CallS.gives n115 (readHead_g _ _ _ (by omega)) ?_ | (refine CallS.givesK n146 (by ((repeat (first | with_reducible assumption | ((with_reducible apply lgs_new); (next => with_reducible assumption)) | ((with_reducible apply lgs_upd); (next => first | with_reducible assumption | fail); (next => ((repeat (first | exact hasb_o (by with_reducible assumption) | fail)); (first | done | fail)))) | fail)); (first | done | fail))) (fun f' => begin_c f' w1.nob (by omega) _ _ _ _ _) ?_; intro g' h2 L2 K2 B2) | (refine CallS.givesK n147 (by ((repeat (first | with_reducible assumption | ((with_reducible apply lgs_upd); (next => first | with_reducible assumption | fail); (next => ((repeat (first | exact hasb_o (by with_reducible assumption) | fail)); (first | done | fail)))) | fail)); (first | done | fail))) (fun f' => add_c f' w1.nob (by omega) _ _ (by omega)) ?_; intro g' h2 L2 K2 B2) | (refine CallS.givesK n148 (by ((repeat (first | with_reducible assumption | ((with_reducible apply lgs_upd); (next => first | with_reducible assumption | fail); (next => ((repeat (first | exact hasb_o (by with_reducible assumption) | fail)); (first | done | fail)))) | fail)); (first | done | fail))) (fun f' => cut_c f' w1.nob (by omega) _ (by omega) _ _ (by omega) w1.last) ?_; intro g' h2 L2 K2 B2) | ((with_reducible apply RdL.i); (next => ((repeat (first | with_reducible assumption | exact hp_same _ _ _ | refine hp_new (by with_reducible assumption) ?_ | refine hp_ne (by first | with_reducible assumption | fail) ?_ | ((with_reducible apply hp_kb); (next => with_reducible assumption); (next => first | with_reducible assumption | fail)) | with_reducible exact blk_o _ | fail)); (first | done | fail)))) | (refine YieldS.go mix ⟨[4, 6, 8, 9, 10, 14], [], true⟩ rfl (by ((repeat (first | with_reducible assumption | fail)); (first | done | fail))) (by rfl) ?_) | with_reducible apply And.intro | exact EqV.mk rfl | with_reducible intro _ | exact Nat.le_of_ble_eq_true rfl | fail)
    · refine Js.Fin.mk ⟨g2, s1.F, s1.L, true, by ((repeat (first | with_reducible assumption | fail)); (first | done | fail)), lg1, k1, w8, ?_⟩
      rw [← e1, steps_end (by omega)]; exact ⟨rfl, rfl, rfl⟩
    all_goals have e0 : tkE b1 = 0 := by omega
    all_goals (try (
      have hst : step1 old s1 (tkK b1) (tkB b1) = none := by
        first
        | exact step_no1 (by omega) (.inl (by assumption))
        | exact step_no1 (by omega) (.inr (.inl (by assumption)))
        | exact step_no1 (by omega) (.inr (.inr (by assumption)))
        | exact step_no2 (by omega) (by assumption)
        | exact step_no3 (by omega) (by assumption)
        | exact step_no (by omega) (by omega) (by omega)
      have hss : steps old s b = none := by rw [← e1, steps_go e0, hst]
      first
      | (have k3 : Kp p h g _ _ := Kp.trans (by ((repeat (first | with_reducible assumption | refine kp_new (by with_reducible assumption) ?_ | refine kp_upd (by with_reducible assumption) ?_ | fail)); (first | done | fail))) (Lg.at' (by ((repeat (first | with_reducible assumption | ((with_reducible apply lgs_new); (next => with_reducible assumption)) | ((with_reducible apply lgs_upd); (next => first | with_reducible assumption | fail); (next => ((repeat (first | exact hasb_o (by with_reducible assumption) | fail)); (first | done | fail)))) | fail)); (first | done | fail)))) K2
         refine Js.Fin.mk ⟨_, _, _, false, by ((repeat (first | exact hp_same _ _ _ | fail)); (first | done | fail)), by ((repeat (first | with_reducible assumption | ((with_reducible apply lgs_upd); (next => first | with_reducible assumption | fail); (next => ((repeat (first | exact hasb_c (by with_reducible assumption) | with_reducible exact hasb_so _ _ _ | with_reducible refine hasb_uc ?_ | with_reducible refine hasb_uo ?_ | refine hasb_kb (by with_reducible assumption) (by first | with_reducible assumption | fail) ?_ | fail)); (first | done | fail)))) | fail)); (first | done | fail)), by ((repeat (first | with_reducible assumption | refine kp_upd (by with_reducible assumption) ?_ | fail)); (first | done | fail)), by ((repeat (first | exact hp_same _ _ _ | refine hp_ne (by first | exact Ne.symm (by with_reducible assumption) | fail) ?_ | fail)); (first | done | fail)), by rw [hss]⟩)
      | refine Js.Fin.mk ⟨_, _, _, false, by ((repeat (first | exact hp_same _ _ _ | refine hp_ne (by first | with_reducible assumption | fail) ?_ | fail)); (first | done | fail)), by ((repeat (first | with_reducible assumption | ((with_reducible apply lgs_new); (next => with_reducible assumption)) | ((with_reducible apply lgs_upd); (next => first | with_reducible assumption | fail); (next => ((repeat (first | exact hasb_c (by with_reducible assumption) | exact hasb_o (by with_reducible assumption) | with_reducible exact hasb_so _ _ _ | with_reducible refine hasb_uc ?_ | with_reducible refine hasb_uo ?_ | fail)); (first | done | fail)))) | fail)); (first | done | fail)), by ((repeat (first | with_reducible assumption | refine kp_new (by with_reducible assumption) ?_ | refine kp_upd (by with_reducible assumption) ?_ | fail)); (first | done | fail)), by ((repeat (first | exact hp_same _ _ _ | refine hp_ne (by first | exact Ne.symm (by with_reducible assumption) | fail) ?_ | fail)); (first | done | fail)), by rw [hss]⟩))
    all_goals have q2 := tk_len e0
    all_goals have k3 : Kp p h g _ _ := Kp.trans (by ((repeat (first | with_reducible assumption | refine kp_new (by with_reducible assumption) ?_ | refine kp_upd (by with_reducible assumption) ?_ | fail)); (first | done | fail))) (Lg.at' (by ((repeat (first | with_reducible assumption | ((with_reducible apply lgs_new); (next => with_reducible assumption)) | ((with_reducible apply lgs_upd); (next => first | with_reducible assumption | fail); (next => ((repeat (first | exact hasb_o (by with_reducible assumption) | fail)); (first | done | fail)))) | fail)); (first | done | fail)))) K2
    all_goals first
      | have hst := step_1 (old := old) (s := s1) (k := tkK b1) (b := tkB b1) (by omega) (by assumption) (by assumption) (by assumption)
      | have hst := step_2 (old := old) (s := s1) (k := tkK b1) (b := tkB b1) (by omega) (by assumption)
      | have hst := step_3 (old := old) (s := s1) (k := tkK b1) (b := tkB b1) (by omega) (by assumption)
    all_goals refine Js.Fin.mk ⟨(_, b1.drop (tkN b1), .no), rfl, ⟨g', by ((repeat (first | with_reducible assumption | ((with_reducible apply lgs_upd); (next => first | with_reducible assumption | fail); (next => ((repeat (first | exact hasb_c (by with_reducible assumption) | with_reducible exact hasb_so _ _ _ | with_reducible refine hasb_uc ?_ | with_reducible refine hasb_uo ?_ | refine hasb_kb (by with_reducible assumption) (by first | with_reducible assumption | fail) ?_ | fail)); (first | done | fail)))) | fail)); (first | done | fail)), by ((repeat (first | with_reducible assumption | refine kp_upd (by with_reducible assumption) ?_ | fail)); (first | done | fail)), by ((repeat (first | with_reducible assumption | refine hp_new (by with_reducible assumption) ?_ | refine hp_ne (by first | with_reducible assumption | exact Ne.symm (by with_reducible assumption) | fail) ?_ | ((with_reducible apply hp_kb); (next => with_reducible assumption); (next => first | with_reducible assumption | fail)) | with_reducible exact blk_c _ | fail)); (first | done | fail)), by ((repeat (first | with_reducible assumption | refine hp_new (by with_reducible assumption) ?_ | refine hp_ne (by first | with_reducible assumption | exact Ne.symm (by with_reducible assumption) | fail) ?_ | ((with_reducible apply hp_kb); (next => with_reducible assumption); (next => first | with_reducible assumption | fail)) | with_reducible exact blk_c _ | fail)); (first | done | fail)), by ((repeat (first | with_reducible assumption | refine hp_new (by with_reducible assumption) ?_ | refine hp_ne (by first | with_reducible assumption | exact Ne.symm (by with_reducible assumption) | fail) ?_ | ((with_reducible apply hp_kb); (next => with_reducible assumption); (next => first | with_reducible assumption | fail)) | with_reducible exact blk_c _ | fail)); (first | done | fail)), by ((repeat (first | with_reducible assumption | exact hp_same _ _ _ | refine hp_ne (by first | with_reducible assumption | exact Ne.symm (by with_reducible assumption) | fail) ?_ | ((with_reducible apply hp_kb); (next => with_reducible assumption); (next => first | with_reducible assumption | fail)) | with_reducible exact blk_c _ | fail)); (first | done | fail)), by ((repeat (first | with_reducible assumption | exact hp_same _ _ _ | refine hp_ne (by first | with_reducible assumption | exact Ne.symm (by with_reducible assumption) | fail) ?_ | ((with_reducible apply hp_kb); (next => with_reducible assumption); (next => first | with_reducible assumption | fail)) | with_reducible exact blk_c _ | fail)); (first | done | fail)), by ((repeat (first | exact hp_same _ _ _ | fail)); (first | done | fail)), w1.step e0 hst, by rw [← e1, steps_go e0, hst]⟩, by simp only [List.length_drop]; omega⟩
  · intro l hl R hR h' ⟨g', F', L', ok, wl, l2, k2, w8, hst⟩
    have ul : h l = none := kp_none kH lH hl
    have n8 : l ≠ a8 := (ne_fresh hl v8).symm
    have np : l ≠ p := (ne_fresh hl lH.at').symm
    have hd8 : (h'.del l) a8 = some (.cells [.bool false]) := by simp only [Heap.del, if_neg n8.symm]; exact w8
    have ld : Lg (h'.del l) p F' L' g' := lgs_del np wl (by subst hR; rfl) l2
    have kd : Kp p h g (h'.del l) g' := kp_del ul k2
    obtain ⟨H2, hH2⟩ : ∃ H2, h'.del l = H2 := ⟨_, rfl⟩
    rw [hH2] at hd8 ld kd
    cases ok with
    | false =>
      refine ⟨.ret, _, ⟨_, wl, .inr ⟨rfl, rfl⟩⟩, hH2, ?_⟩
      clear hR wl
      have hss : steps old s b = none := by
        cases hc : steps old s b with
        | none => rfl
        | some t => rw [hc] at hst; cases hst.1
      repeat' (first | ((with_reducible apply Nx.mk); conv => whnf) | ((with_reducible apply RdC.i); (next => ((repeat (first | with_reducible assumption | fail)); (first | done | fail))); (next => first | rfl | fail)) | fail)
      refine Js.Fin.mk ⟨g', _, F', L', _, ld, kd, Heap.sub_rfl _, rfl, ?_⟩
      rw [hss]
    | true =>
      refine ⟨.normal, _, ⟨_, wl, .inl ⟨rfl, rfl⟩⟩, hH2, ?_⟩
      clear hR wl
      have hw := w.len
      repeat' (first | ((with_reducible apply Nx.mk); conv => whnf) | ((with_reducible apply RdC.i); (next => ((repeat (first | exact hp_same _ _ _ | fail)); (first | done | fail))); (next => first | rfl | fail)) | ((with_reducible apply RdH.i); (next => ((repeat (first | with_reducible assumption | fail)); (first | done | fail)))) | ((with_reducible first | apply brS_i | apply spB_i) <;> intro c <;> (try exact absurd c (by decide)) <;> (try simp only [decide_eq_true_eq, decide_eq_false_iff_not, beq_iff_eq, bne_iff_ne, Bool.not_eq_true', Bool.not_eq_false', beq_eq_false_iff_ne, Bool.not_true, Bool.not_false, reduceCtorEq, ne_eq, bne_eq_false_iff_eq, Int.not_lt, Int.not_le, Decidable.not_not] at c) <;> (try (exfalso; omega))) | ((with_reducible apply Up.i); (next => first | rfl | fail)) | ((with_reducible apply HN.i); (next => first | rfl | fail)) | refine CallS.gives n118 (end_P _ _ (by omega)) ?_ | with_reducible intro _ | fail)
      all_goals (
        cases hc : steps old s b with
        | none => rw [hc] at hst; cases hst
        | some t =>
          rw [hc] at hst
          refine Js.Fin.mk ⟨g', _, F', L', _, by ((repeat (first | with_reducible assumption | ((with_reducible apply lgs_upd); (next => first | with_reducible assumption | fail); (next => ((repeat (first | exact hasb_c (by with_reducible assumption) | fail)); (first | done | fail)))) | fail)); (first | done | fail)), by ((repeat (first | with_reducible assumption | refine kp_upd (by with_reducible assumption) ?_ | fail)); (first | done | fail)), Heap.sub_rfl _, rfl, ?_⟩
          refine ⟨?_, hst.2.1, hst.2.2⟩
          first
          | (have q : endC b = 0 := by omega
             rw [q]; rfl)
          | (have q : endC b = 31 := by omega
             rw [q]; rfl)
          | (have q : endC b ≠ 0 := by omega
             have q2 : endC b ≠ 31 := by omega
             simp [q, q2]))
end J
end

section
/- Files are sorted. -/
namespace J
open Go Go.Proofs Jb Js
set_option maxRecDepth 100000
set_option maxHeartbeats 4000000
theorem c175 {args : List V} {h : Heap} {K : V → Heap → Prop} (hn : Nat.ble args.length Tryz.f175.ntmps = true) (e : Nx (bodyS Tryz.prog ⟨[], [], false⟩ Tryz.f175 args h K)) : CallW Tryz.prog 175 args h K := CallW.go mix _ Tryz.func175 (Nat.le_of_ble_eq_true hn) rfl e
theorem n175 : enters Tryz.prog 175 = true := by kernel_rfl
theorem i175 {args : List V} {h : Heap} {K : V → Heap → Prop} (hn : Nat.ble args.length Tryz.f175.ntmps = true) (e : Nx (bodyS Tryz.prog ⟨[], [], false⟩ Tryz.f175 args h K)) : CallS Tryz.prog 175 args h K := ⟨AnyW.call n175 (c175 hn e)⟩
theorem c144 {args : List V} {h : Heap} {K : V → Heap → Prop} (hn : Nat.ble args.length Tryz.f144.ntmps = true) (e : Nx (bodyS Tryz.prog ⟨[], [], false⟩ Tryz.f144 args h K)) : CallW Tryz.prog 144 args h K := CallW.go mix _ Tryz.func144 (Nat.le_of_ble_eq_true hn) rfl e
theorem n144 : enters Tryz.prog 144 = true := by kernel_rfl
theorem c143 {args : List V} {h : Heap} {K : V → Heap → Prop} (hn : Nat.ble args.length Tryz.f143.ntmps = true) (e : Nx (bodyS Tryz.prog ⟨[], [], false⟩ Tryz.f143 args h K)) : CallW Tryz.prog 143 args h K := CallW.go mix _ Tryz.func143 (Nat.le_of_ble_eq_true hn) rfl e
theorem n143 : enters Tryz.prog 143 = true := by kernel_rfl
theorem cmp_g (a b : Nat) {h : Heap} : Gives Tryz.prog 144 [.int .u64 a, .int .u64 b] h (.int .i64 (if a < b then -1 else if b < a then 1 else 0)) h := by
  refine c144 rfl ?_
  repeat' (first | ((with_reducible apply Nx.mk); conv => whnf) | ((with_reducible apply Js.Fin.mk); (with_reducible apply Nx.mk); conv => whnf) | ((with_reducible first | apply brS_i | apply spB_i) <;> intro c <;> (try exact absurd c (by decide)) <;> (try simp only [decide_eq_true_eq, decide_eq_false_iff_not, beq_iff_eq, bne_iff_ne, Bool.not_eq_true', Bool.not_eq_false', beq_eq_false_iff_ne, Bool.not_true, Bool.not_false, reduceCtorEq, ne_eq, bne_eq_false_iff_eq, Int.not_lt, Int.not_le, Decidable.not_not] at c) <;> (try (exfalso; omega))) | refine i175 rfl ?_ | fail)
  all_goals first
    | exact absurd trivial (by assumption)
    | (refine Js.Fin.mk ⟨?_, by (repeat (first | exact Heap.sub_rfl _ | fail))⟩
       first
       | (rw [if_pos (by omega)]; exact .rfl _)
       | (rw [if_neg (by omega), if_pos (by omega)]; exact .rfl _)
       | (rw [if_neg (by omega), if_neg (by omega)]; exact .rfl _))
def cmpI (x y : Nat) : Int := if x < y then -1 else if y < x then 1 else 0
theorem oc_g {m r a b x y : Nat} {mp : List (V × V)} {h : Heap} (h1 : h m = some (.cells [.map (some r)])) (h2 : h r = some (.obj (.map mp))) (k1 : findV (.int .i64 a) mp = some (some (.int .u64 x))) (k2 : findV (.int .i64 b) mp = some (some (.int .u64 y))) :
    Gives Tryz.prog 143 [.int .i64 a, .int .i64 b, .ptr m 0] h (.int .i64 (cmpI x y)) h := by
  have hm : mapAt h (.map (some r)) = some mp := by unfold mapAt; simp only [h2]
  refine c143 rfl ?_
  repeat' (first | ((with_reducible apply Nx.mk); conv => whnf) | ((with_reducible apply RdC.i); (next => ((repeat (first | with_reducible assumption | fail)); (first | done | fail))); (next => first | rfl | fail)) | ((with_reducible apply HN.i); (next => first | rfl | fail)) | refine (RdM.i hm k1 ?_) | refine (RdM.i hm k2 ?_) | refine CallS.gives n144 (cmp_g _ _) ?_ | fail)
  exact Js.Fin.mk ⟨.rfl _, by (repeat (first | exact Heap.sub_rfl _ | fail))⟩
end J
end

section
/- Numbers are sorted in their block. -/
namespace J
open Go Go.Proofs Jb Js
set_option maxRecDepth 100000
set_option maxHeartbeats 4000000
theorem c184 {args : List V} {h : Heap} {K : V → Heap → Prop} (hn : Nat.ble args.length Tryz.f184.ntmps = true) (e : Nx (bodyS Tryz.prog ⟨[], [(0, [9, 44], []), (2, [9, 44], []), (3, [10, 43], []), (5, [10, 43], [])], false⟩ Tryz.f184 args h K)) : CallW Tryz.prog 184 args h K := CallW.go mix _ Tryz.func184 (Nat.le_of_ble_eq_true hn) rfl e
theorem n184 : enters Tryz.prog 184 = true := by kernel_rfl
theorem c174 {args : List V} {h : Heap} {K : V → Heap → Prop} (hn : Nat.ble args.length Tryz.f174.ntmps = true) (e : Nx (bodyS Tryz.prog ⟨[], [(1, [9, 54], []), (5, [9, 54], []), (6, [7, 56], []), (8, [9, 54], []), (12, [9, 54], []), (16, [7, 56], [])], false⟩ Tryz.f174 args h K)) : CallW Tryz.prog 174 args h K := CallW.go mix _ Tryz.func174 (Nat.le_of_ble_eq_true hn) rfl e
theorem n174 : enters Tryz.prog 174 = true := by kernel_rfl
theorem c142 {args : List V} {h : Heap} {K : V → Heap → Prop} (hn : Nat.ble args.length Tryz.f142.ntmps = true) (e : Nx (bodyS Tryz.prog ⟨[], [], false⟩ Tryz.f142 args h K)) : CallW Tryz.prog 142 args h K := CallW.go mix _ Tryz.func142 (Nat.le_of_ble_eq_true hn) rfl e
theorem n142 : enters Tryz.prog 142 = true := by kernel_rfl
def insR (key : Nat → Nat) (x : Nat) : List Nat → List Nat
  | [] => [x]
  | y :: r => if key x < key y then y :: insR key x r else x :: y :: r
def sortI (key : Nat → Nat) (l : List Nat) : List Nat := (l.foldl (fun r x => insR key x r) []).reverse
def iv (l : List Nat) : List V := l.map fun (x : Nat) => V.int .i64 (x : Int)
theorem iv_at {l : List Nat} {R : List V} {i x : Nat} (h : l[i]? = some x) : (iv l ++ R)[0 + i * 1]? = some (.int .i64 x) := by
  obtain ⟨hi, e⟩ := List.getElem?_eq_some_iff.1 h
  rw [Nat.zero_add, Nat.mul_one, List.getElem?_append_left (by simp [iv]; exact hi)]
  simp [iv, h]
theorem insR_len (key : Nat → Nat) (x : Nat) : ∀ r, (insR key x r).length = r.length + 1
  | [] => rfl
  | y :: r => by unfold insR; split <;> simp [insR_len key x r]
theorem insR_mem (key : Nat → Nat) (x z : Nat) : ∀ r, z ∈ insR key x r ↔ z = x ∨ z ∈ r
  | [] => by simp [insR]
  | y :: r => by
    unfold insR; split
    · simp only [List.mem_cons, insR_mem key x z r]; constructor <;> (rintro (h | h | h) <;> simp [h])
    · simp
theorem sort_snoc (key : Nat → Nat) (l : List Nat) (x : Nat) : sortI key (l ++ [x]) = (insR key x (sortI key l).reverse).reverse := by simp [sortI]
theorem sort_len (key : Nat → Nat) : ∀ (n : Nat) (l : List Nat), l.length = n → (sortI key l).length = n := by
  intro n
  induction n with
  | zero => intro l h; rw [List.length_eq_zero_iff.1 h]; rfl
  | succ n ih =>
    intro l h
    rcases List.eq_nil_or_concat l with rfl | ⟨l', y, e⟩
    · simp at h
    · rw [List.concat_eq_append] at e; subst e
      simp at h
      rw [sort_snoc]; simp [insR_len, ih l' h]
theorem sort_mem (key : Nat → Nat) (z : Nat) : ∀ (n : Nat) (l : List Nat), l.length = n → (z ∈ sortI key l ↔ z ∈ l) := by
  intro n
  induction n with
  | zero => intro l h; rw [List.length_eq_zero_iff.1 h]; rfl
  | succ n ih =>
    intro l h
    rcases List.eq_nil_or_concat l with rfl | ⟨l', y, e⟩
    · simp at h
    · rw [List.concat_eq_append] at e; subst e
      simp at h
      rw [sort_snoc]; simp only [List.mem_reverse, insR_mem, ih l' h, List.mem_append, List.mem_cons, List.not_mem_nil, or_false]
      exact Or.comm
theorem iv_len (l : List Nat) : (iv l).length = l.length := by simp [iv]
theorem wr_iv {l l' : List Nat} {R : List V} {i v : Nat} (h : i < l.length) (e : l.set i v = l') : wrCells (iv l ++ R) (0 + i * 1) [V.int .i64 (v : Int)] = iv l' ++ R := by
  subst e
  rw [wr_set (by rw [List.length_append, iv_len]; omega), Nat.zero_add, Nat.mul_one, List.set_append_left _ _ (by rw [iv_len]; exact h)]
  simp [iv, List.map_set]
theorem upd_id {h : Heap} {l : Nat} {o : Ob} (e : h l = some o) : h.upd l o = h := by
  funext x; simp only [Heap.upd]; split
  · rename_i q; rw [q, e]
  · rfl
theorem ins_c {bl m r n cap : Nat} {mp : List (V × V)} {key : Nat → Nat} {xs : List Nat} {R : List V} {h : Heap} (h1 : h m = some (.cells [.map (some r)])) (h2 : h r = some (.obj (.map mp))) (hb : h bl = some (.cells (iv xs ++ R)))
    (n1 : bl ≠ m) (n2 : bl ≠ r) (hk : ∀ x ∈ xs, findV (.int .i64 x) mp = some (some (.int .u64 (key x)))) (hn : n = xs.length) (hl : n < 1000) :
    Gives Tryz.prog 184 [.sref 1 bl 0 n cap, .int .i64 0, .int .i64 n, .fn (.func 143) [] [.ptr m 0]] h (.tup []) (h.upd bl (.cells (iv (sortI key xs) ++ R))) := by
  refine c184 rfl ?_
  repeat' (first | ((with_reducible apply Nx.mk); conv => whnf) | ((with_reducible apply Wr.i); (next => first | exact wrap_i64z (by omega) (by omega) | fail)) | fail)
  subst hn
  refine loopS (σ := Nat × List Nat) (fun s => frm 53 [(0, .sref 1 bl 0 xs.length cap), (1, .int .i64 0), (2, .int .i64 xs.length), (3, .fn (.func 143) [] [.ptr m 0]), (8, .int .i64 s.1)]) (fun _ => []) (fun s => xs.length - s.1)
    (fun s h' => h' = h.upd bl (.cells (iv s.2 ++ R)) ∧ s.2 = sortI key (xs.take s.1) ++ xs.drop s.1 ∧ 1 ≤ s.1) (1, xs) rfl ⟨?_, ?_, by simp⟩ ?_
  · exact (upd_id hb).symm
  · cases xs with
    | nil => rfl
    | cons a l => rfl
  rintro ⟨i, ys⟩ h' ⟨rfl, k1, k2⟩
  simp only at k1 k2 ⊢
  repeat' (first | ((with_reducible apply Nx.mk); conv => whnf) | ((with_reducible first | apply brS_i | apply spB_i) <;> intro c <;> (try exact absurd c (by decide)) <;> (try simp only [decide_eq_true_eq, decide_eq_false_iff_not, beq_iff_eq, bne_iff_ne, Bool.not_eq_true', Bool.not_eq_false', beq_eq_false_iff_ne, Bool.not_true, Bool.not_false, reduceCtorEq, ne_eq, bne_eq_false_iff_eq, Int.not_lt, Int.not_le, Decidable.not_not] at c) <;> (try (exfalso; omega))) | fail)
  · have hi : i < xs.length := by omega
    have hx : xs.getD i 0 = xs[i] := by simp [hi]
    have hd : xs.drop i = xs.getD i 0 :: xs.drop (i + 1) := by rw [hx]; exact List.drop_eq_getElem_cons hi
    have ht : xs.take (i + 1) = xs.take i ++ [xs.getD i 0] := by rw [hx]; exact (List.take_append_getElem hi).symm
    refine loopS (σ := List Nat × Nat × List Nat) (fun s => frm 53 [(0, .sref 1 bl 0 xs.length cap), (1, .int .i64 0), (2, .int .i64 xs.length), (3, .fn (.func 143) [] [.ptr m 0]), (8, .int .i64 i), (9, .int .i64 s.1.length)]) (fun _ => []) (fun s => s.1.length)
      (fun s h' => h' = h.upd bl (.cells (iv (s.1 ++ s.2.1 :: s.2.2) ++ R)) ∧ (insR key s.2.1 s.1.reverse).reverse ++ s.2.2 = sortI key (xs.take (i + 1)) ++ xs.drop (i + 1) ∧ (s.1 ++ s.2.1 :: s.2.2).length = xs.length ∧ ∀ x ∈ s.1 ++ s.2.1 :: s.2.2, x ∈ xs) (sortI key (xs.take i), xs.getD i 0, xs.drop (i + 1)) ?_ ⟨?_, ?_, ?_, ?_⟩ ?_
    · simp only [sort_len key i (xs.take i) (by simp; omega)]; rfl
    · simp only; rw [k1, hd]
    · simp only [List.reverse_reverse]
      rw [ht, sort_snoc]
    · simp only [List.length_append, List.length_cons, List.length_drop, sort_len key i (xs.take i) (by simp; omega)]; omega
    · intro z hz
      simp only [List.mem_append, List.mem_cons, sort_mem key z i (xs.take i) (by simp; omega)] at hz
      rcases hz with q | q | q
      · exact List.mem_of_mem_take q
      · rw [q, hx]; exact List.getElem_mem hi
      · exact List.mem_of_mem_drop q
    rintro ⟨A, x, B⟩ h' ⟨rfl, j1, j2, j3⟩
    simp only at j1 j2 j3 ⊢
    simp only [List.length_append, List.length_cons] at j2
    rcases List.eq_nil_or_concat A with rfl | ⟨A', y, hA⟩
    · repeat' (first | ((with_reducible apply Nx.mk); conv => whnf) | ((with_reducible first | apply brS_i | apply spB_i) <;> intro c <;> (try exact absurd c (by decide)) <;> (try simp only [decide_eq_true_eq, decide_eq_false_iff_not, beq_iff_eq, bne_iff_ne, Bool.not_eq_true', Bool.not_eq_false', beq_eq_false_iff_ne, Bool.not_true, Bool.not_false, reduceCtorEq, ne_eq, bne_eq_false_iff_eq, Int.not_lt, Int.not_le, Decidable.not_not] at c) <;> (try (exfalso; omega))) | ((with_reducible apply Wr.i); (next => first | with_reducible exact wn_addl (by omega) | fail)) | ((with_reducible apply Plan.i); (next => kernel_rfl); (next => kernel_rfl)) | with_reducible intro _ | fail)
      exact Js.Fin.mk ⟨(i + 1, [] ++ x :: B), rfl, ⟨rfl, by rw [← j1]; rfl, by simp only; omega⟩, by simp only; omega⟩
    · rw [List.concat_eq_append] at hA; subst hA
      simp only [List.length_append, List.length_singleton] at j2 ⊢
      have m1 : (A' ++ [y] ++ x :: B)[A'.length + 1]? = some x := by simp
      have m2 : (A' ++ [y] ++ x :: B)[A'.length]? = some y := by simp
      have m3 : (A' ++ [y] ++ x :: B)[A'.length + 1 - 1]? = some y := by simp
      have ky := hk y (j3 y (by simp))
      have kx := hk x (j3 x (by simp))
      repeat' (first | ((with_reducible apply Nx.mk); conv => whnf) | ((with_reducible apply RdC.i); (next => ((repeat (first | exact hp_same _ _ _ | fail)); (first | done | fail))); (next => first | with_reducible exact iv_at m1 | with_reducible exact iv_at m3 | fail)) | ((with_reducible apply At.i); (next => first | with_reducible rfl | fail); (next => first | omega | fail)) | ((with_reducible apply RdH.i); (next => ((repeat (first | exact hp_same _ _ _ | fail)); (first | done | fail)))) | ((with_reducible first | apply brS_i | apply spB_i) <;> intro c <;> (try exact absurd c (by decide)) <;> (try simp only [decide_eq_true_eq, decide_eq_false_iff_not, beq_iff_eq, bne_iff_ne, Bool.not_eq_true', Bool.not_eq_false', beq_eq_false_iff_ne, Bool.not_true, Bool.not_false, reduceCtorEq, ne_eq, bne_eq_false_iff_eq, Int.not_lt, Int.not_le, Decidable.not_not] at c) <;> (try (exfalso; omega))) | ((with_reducible apply Wr.i); (next => first | with_reducible exact wn_addl (by omega) | with_reducible exact wn_subl (by omega) (by omega) | fail)) | ((with_reducible apply HN.i); (next => first | rfl | fail)) | ((with_reducible apply Plan.i); (next => kernel_rfl); (next => kernel_rfl)) | refine CallS.gives n143 (oc_g (by ((repeat (first | with_reducible assumption | refine hp_ne (by first | exact Ne.symm (by with_reducible assumption) | fail) ?_ | fail)); (first | done | fail))) (by ((repeat (first | with_reducible assumption | refine hp_ne (by first | exact Ne.symm (by with_reducible assumption) | fail) ?_ | fail)); (first | done | fail))) kx ky) ?_ | fail)
      · refine wrS_i (by first | (simp [iv]; done) | (simp [iv]; omega)) (wr_iv (l' := A' ++ [y] ++ y :: B) (by first | (simp; done) | (simp; omega)) (by simp [List.set_append])) ?_
        · have m4 : (A' ++ [y] ++ y :: B)[A'.length + 1]? = some y := by simp
          repeat' (first | ((with_reducible apply Nx.mk); conv => whnf) | ((with_reducible apply At.i); (next => first | with_reducible rfl | fail); (next => first | omega | fail)) | ((with_reducible apply RdH.i); (next => ((repeat (first | exact hp_same _ _ _ | fail)); (first | done | fail)))) | ((with_reducible apply Up.i); (next => first | exact upd_upd _ _ _ _ | fail)) | fail)
          refine wrS_i (by first | (simp [iv]; done) | (simp [iv]; omega)) (wr_iv (l' := A' ++ x :: y :: B) (by first | (simp; done) | (simp; omega)) (by simp [List.set_append])) ?_
          repeat' (first | ((with_reducible apply Nx.mk); conv => whnf) | ((with_reducible apply Wr.i); (next => first | with_reducible exact wn_subl (by omega) (by omega) | fail)) | ((with_reducible apply Up.i); (next => first | exact upd_upd _ _ _ _ | fail)) | fail)
          have hlt : key x < key y := by unfold cmpI at c; split at c <;> (try split at c) <;> omega
          refine Js.Fin.mk ⟨(A', x, y :: B), rfl, ⟨rfl, ?_, by simp; omega, fun z hz => j3 z (by simp only [List.mem_append, List.mem_cons, List.not_mem_nil, or_false] at hz ⊢; rcases hz with q | q | q | q <;> simp [q])⟩, by simp only [List.length_append, List.length_singleton]; omega⟩
          rw [← j1]
          simp [insR, hlt]
      · have hlt : ¬ key x < key y := by unfold cmpI at c; split at c <;> (try split at c) <;> omega
        refine Js.Fin.mk ⟨(i + 1, A' ++ [y] ++ x :: B), rfl, ⟨rfl, ?_, by simp only; omega⟩, by simp only; omega⟩
        rw [← j1]
        simp [insR, hlt]
  · have e1 : xs.take i = xs := List.take_of_length_le (by omega)
    have e2 : xs.drop i = [] := List.drop_eq_nil_of_le (by omega)
    rw [e1, e2, List.append_nil] at k1
    rw [k1]
    exact Js.Fin.mk ⟨.rfl _, Heap.sub_rfl _⟩
theorem stable_c {bl m r n cap : Nat} {mp : List (V × V)} {key : Nat → Nat} {xs : List Nat} {R : List V} {h : Heap} (h1 : h m = some (.cells [.map (some r)])) (h2 : h r = some (.obj (.map mp))) (hb : h bl = some (.cells (iv xs ++ R)))
    (n1 : bl ≠ m) (n2 : bl ≠ r) (hk : ∀ x ∈ xs, findV (.int .i64 x) mp = some (some (.int .u64 (key x)))) (hn : n = xs.length) (hl : n < 20) :
    Gives Tryz.prog 174 [.sref 1 bl 0 n cap, .int .i64 n, .fn (.func 143) [] [.ptr m 0]] h (.tup []) (h.upd bl (.cells (iv (sortI key xs) ++ R))) := by
  refine c174 rfl ?_
  repeat' (first | ((with_reducible apply Nx.mk); conv => whnf) | fail)
  refine loopS (σ := Unit) (fun _ => frm 63 [(0, .sref 1 bl 0 n cap), (1, .int .i64 n), (2, .fn (.func 143) [] [.ptr m 0]), (6, .int .i64 20), (7, .int .i64 0), (8, .int .i64 20)]) (fun _ => []) (fun _ => 0) (fun _ h' => h' = h) () rfl rfl ?_
  rintro ⟨⟩ h' rfl
  repeat' (first | ((with_reducible apply Nx.mk); conv => whnf) | ((with_reducible first | apply brS_i | apply spB_i) <;> intro c <;> (try exact absurd c (by decide)) <;> (try simp only [decide_eq_true_eq, decide_eq_false_iff_not, beq_iff_eq, bne_iff_ne, Bool.not_eq_true', Bool.not_eq_false', beq_eq_false_iff_ne, Bool.not_true, Bool.not_false, reduceCtorEq, ne_eq, bne_eq_false_iff_eq, Int.not_lt, Int.not_le, Decidable.not_not] at c) <;> (try (exfalso; omega))) | ((with_reducible apply HN.i); (next => first | rfl | fail)) | refine CallS.gives n184 (ins_c h1 h2 hb n1 n2 hk hn (by omega)) ?_ | fail)
  refine loopS (σ := Unit) (fun _ => frm 63 [(0, .sref 1 bl 0 n cap), (1, .int .i64 n), (2, .fn (.func 143) [] [.ptr m 0]), (6, .int .i64 20)]) (fun _ => []) (fun _ => 0) (fun _ h2 => h2 = h'.upd bl (.cells (iv (sortI key xs) ++ R))) () rfl rfl ?_
  rintro ⟨⟩ h2 rfl
  repeat' (first | ((with_reducible apply Nx.mk); conv => whnf) | ((with_reducible first | apply brS_i | apply spB_i) <;> intro c <;> (try exact absurd c (by decide)) <;> (try simp only [decide_eq_true_eq, decide_eq_false_iff_not, beq_iff_eq, bne_iff_ne, Bool.not_eq_true', Bool.not_eq_false', beq_eq_false_iff_ne, Bool.not_true, Bool.not_false, reduceCtorEq, ne_eq, bne_eq_false_iff_eq, Int.not_lt, Int.not_le, Decidable.not_not] at c) <;> (try (exfalso; omega))) | fail)
  exact Js.Fin.mk ⟨.rfl _, Heap.sub_rfl _⟩
theorem sorts_c {bl m r n cap : Nat} {mp : List (V × V)} {key : Nat → Nat} {xs : List Nat} {R : List V} {h : Heap} (h1 : h m = some (.cells [.map (some r)])) (h2 : h r = some (.obj (.map mp))) (hb : h bl = some (.cells (iv xs ++ R)))
    (n1 : bl ≠ m) (n2 : bl ≠ r) (hk : ∀ x ∈ xs, findV (.int .i64 x) mp = some (some (.int .u64 (key x)))) (hn : n = xs.length) (hl : n < 20) :
    Gives Tryz.prog 142 [.sref 1 bl 0 n cap, .fn (.func 143) [] [.ptr m 0]] h (.tup []) (h.upd bl (.cells (iv (sortI key xs) ++ R))) := by
  refine c142 rfl ?_
  repeat' (first | ((with_reducible apply Nx.mk); conv => whnf) | ((with_reducible apply HN.i); (next => first | rfl | fail)) | refine CallS.gives n174 (stable_c h1 h2 hb n1 n2 hk hn hl) ?_ | fail)
  exact Js.Fin.mk ⟨.rfl _, Heap.sub_rfl _⟩
end J
end

section
/- Which files are segments, and in which order. -/
namespace J
open Go Go.Proofs Jb Js
set_option maxRecDepth 100000
set_option maxHeartbeats 4000000

theorem c105 {args : List V} {h : Heap} {K : V → Heap → Prop} (hn : Nat.ble args.length Tryz.f105.ntmps = true) (e : Nx (bodyS Tryz.prog ⟨[3, 29], [(0, [], [2]), (2, [0, 1, 3, 5, 3, 23], []), (9, [0, 1, 3, 5, 3, 23], [])], false⟩ Tryz.f105 args h K)) : CallW Tryz.prog 105 args h K := CallW.go mix _ Tryz.func105 (Nat.le_of_ble_eq_true hn) rfl e
theorem n105 : enters Tryz.prog 105 = true := by kernel_rfl
theorem CallS.by' {P : Program} {f : FuncId} {args : List V} {h : Heap} {K K0 : V → Heap → Prop} (he : enters P f = true) (c : CallW P f args h K0) (m : ∀ r h', K0 r h' → Nx (K r h')) : CallS P f args h K := ⟨AnyW.call he (CallW.mono c fun r h' k => (m r h' k).out)⟩
def fv (fs : List (List UInt8)) : List (List V) := fs.map fun b => [.sl 1 (bs b) .no]
def fa (fs : List (List UInt8)) (i : Nat) : List UInt8 := fs.getD i []
theorem fv_len (fs : List (List UInt8)) : (fv fs).length = fs.length := by simp [fv]
theorem fv_at {fs : List (List UInt8)} {i : Nat} (h : i < fs.length) : (fv fs)[i]? = some [.sl 1 (bs (fa fs i)) .no] := by simp [fv, fa, h]
def fo (fs : List (List UInt8)) (i : Nat) : Bool := fhOk (fa fs i)
def fk (fs : List (List UInt8)) (i : Nat) : Nat := fhSer (fa fs i)
def ordL (fs : List (List UInt8)) (n : Nat) : List Nat := (List.range n).filter (fo fs)
def mpL (fs : List (List UInt8)) (l : List Nat) : List (V × V) := l.map fun (i : Nat) => (V.int .i64 (i : Int), V.int .u64 (fk fs i : Int))
def ord (fs : List (List UInt8)) : List Nat := sortI (fk fs) (ordL fs fs.length)
theorem ordL_lt {fs : List (List UInt8)} {n x : Nat} (h : x ∈ ordL fs n) : x < n := by
  have := (List.mem_filter.1 h).1
  simpa using this
theorem ordL_ok {fs : List (List UInt8)} {n x : Nat} (h : x ∈ ordL fs n) : fo fs x = true := (List.mem_filter.1 h).2
theorem ordL_yes {fs : List (List UInt8)} {n : Nat} (h : fo fs n = true) : ordL fs (n + 1) = ordL fs n ++ [n] := by simp [ordL, List.range_succ, List.filter_append, h]
theorem ordL_no {fs : List (List UInt8)} {n : Nat} (h : fo fs n = false) : ordL fs (n + 1) = ordL fs n := by simp [ordL, List.range_succ, List.filter_append, h]
theorem ordL_len (fs : List (List UInt8)) (n : Nat) : (ordL fs n).length ≤ n := Nat.le_trans (List.length_filter_le _ _) (by simp)
theorem ord_mem {fs : List (List UInt8)} {x : Nat} (h : x ∈ ord fs) : x < fs.length ∧ fo fs x = true := by
  have := (sort_mem (fk fs) x _ (ordL fs fs.length) rfl).1 h
  exact ⟨ordL_lt this, ordL_ok this⟩
theorem ord_len (fs : List (List UInt8)) : (ord fs).length = (ordL fs fs.length).length := sort_len _ _ _ rfl
theorem keyI (x y : Nat) : keyEq (.int .i64 (x : Int)) (.int .i64 (y : Int)) = some (decide (x = y)) := by
  simp only [keyEq, kindEq]
  by_cases h : x = y
  · subst h; simp
  · simp [h]
    omega
theorem mp_find {fs : List (List UInt8)} : ∀ {l : List Nat} {x : Nat}, x ∈ l → findV (.int .i64 (x : Int)) (mpL fs l) = some (some (.int .u64 (fk fs x)))
  | y :: r, x, h => by
    simp only [mpL, List.map_cons, findV, keyI]
    by_cases e : x = y
    · subst e; simp
    · simp only [decide_eq_false e]
      exact mp_find (by simpa [e] using h)
theorem mp_upd {fs : List (List UInt8)} (x : Nat) : ∀ {l : List Nat}, (∀ y ∈ l, y < x) → updV (.int .i64 (x : Int)) (.int .u64 (fk fs x)) (mpL fs l) = some (mpL fs (l ++ [x]))
  | [], _ => rfl
  | y :: r, h => by
    have := h y (by simp)
    simp only [mpL, List.map_cons, updV, keyI, decide_eq_false (show ¬ x = y by omega), List.cons_append]
    have := mp_upd (fs := fs) x (l := r) fun z hz => h z (by simp [hz])
    unfold mpL at this
    rw [this]
structure OS (h h' : Heap) (m k bl cap : Nat) (fs : List (List UInt8)) (l : List Nat) : Prop where
  sub : h.Sub h'
  hm : h' m = some (.cells [.map (some k)])
  hk : h' k = some (.obj (.map (mpL fs l)))
  km : h k = none
  blk : (l = [] ∧ bl = 0 ∧ cap = 0) ∨ (∃ R : List V, h' bl = some (.cells (iv l ++ R)) ∧ cap = l.length + R.length ∧ h bl = none ∧ bl ≠ m ∧ bl ≠ k)
theorem cellsAt_eq {h : Heap} {l : Nat} {cs : List V} (e : h l = some (.cells cs)) : cellsAt h l = cs := by unfold cellsAt; rw [e]
theorem OS.room {h h' : Heap} {m k bl cap : Nat} {fs : List (List UInt8)} {l : List Nat} {o : Ob} (s : OS h h' m k bl cap fs l) : 0 + cap * 1 ≤ (cellsAt (h'.upd k o) bl).length := by
  rcases s.blk with ⟨_, _, rfl⟩ | ⟨R, e, rfl, _, _, hk⟩
  · simp
  · rw [cellsAt_eq (hp_ne hk e), List.length_append, iv_len]; omega
theorem iv_snoc (l : List Nat) (x : Nat) : iv (l ++ [x]) = iv l ++ [.int .i64 (x : Int)] := by simp [iv]
theorem OS.step {h h' h2 : Heap} {m k bl cap bl2 off2 cap2 : Nat} {fs : List (List UInt8)} {l : List Nat} {x : Nat} (s : OS h h' m k bl cap fs l) (hm0 : h m = none) (hmk : k ≠ m)
    (a : AppTo 1 (h'.upd k (.obj (.map (mpL fs (l ++ [x]))))) bl 0 l.length cap [[V.int .i64 (x : Int)]] bl2 off2 cap2 h2) : off2 = 0 ∧ OS h h2 m k bl2 cap2 fs (l ++ [x]) := by
  have hs1 : h.Sub (h'.upd k (.obj (.map (mpL fs (l ++ [x]))))) := sub_new s.km s.sub
  have hm1 : (h'.upd k (.obj (.map (mpL fs (l ++ [x]))))) m = some (.cells [.map (some k)]) := hp_ne hmk.symm s.hm
  have hk1 : (h'.upd k (.obj (.map (mpL fs (l ++ [x]))))) k = some (.obj (.map (mpL fs (l ++ [x])))) := hp_same _ _ _
  generalize hH : h'.upd k (.obj (.map (mpL fs (l ++ [x])))) = H at *
  rcases a with ⟨c, rfl, rfl, rfl, rfl⟩ | ⟨c, c2, hn, rfl, rest, hr, rfl⟩
  · simp only [List.length_singleton] at c
    rcases s.blk with ⟨_, _, rfl⟩ | ⟨R, e, hc, e2, n1, n2⟩
    · omega
    · have e' : H bl2 = some (.cells (iv l ++ R)) := by rw [← hH]; exact hp_ne n2 e
      obtain ⟨r, R', rfl⟩ : ∃ r R', R = r :: R' := by
        cases R with
        | nil => simp at hc; omega
        | cons r R' => exact ⟨r, R', rfl⟩
      have w : wrCells (cellsAt H bl2) (0 + l.length * 1) [V.int .i64 (x : Int)] = iv (l ++ [x]) ++ R' := by
        rw [cellsAt_eq e', iv_snoc]
        simp [wrCells, List.take_append, List.drop_append, iv_len]
      have w2 : ([[V.int .i64 (x : Int)]] : List (List V)).flatten = [V.int .i64 (x : Int)] := rfl
      rw [w2, w]
      exact ⟨rfl, ⟨sub_new e2 hs1, hp_ne n1.symm hm1, hp_ne n2.symm hk1, s.km, .inr ⟨R', hp_same _ _ _, by simp only [List.length_append, List.length_singleton, List.length_cons, List.length_nil] at hc ⊢; omega, e2, n1, n2⟩⟩⟩
  · simp only [List.length_singleton] at c c2 hr
    have w : ((cellsAt H bl).drop 0).take (l.length * 1) = iv l := by
      rcases s.blk with ⟨rfl, _, _⟩ | ⟨R, e, hc, e2, n1, n2⟩
      · simp [iv]
      · have e' : H bl = some (.cells (iv l ++ R)) := by rw [← hH]; exact hp_ne n2 e
        rw [cellsAt_eq e']
        simp [List.take_append, iv_len]
    have w2 : ([[V.int .i64 (x : Int)]] : List (List V)).flatten = [V.int .i64 (x : Int)] := rfl
    rw [w, w2, ← iv_snoc]
    have hn0 : h bl2 = none := by
      cases hb : h bl2 with
      | none => rfl
      | some o => rw [hs1 _ _ hb] at hn; cases hn
    have n1 : bl2 ≠ m := by rintro rfl; rw [hm1] at hn; cases hn
    have n2 : bl2 ≠ k := by rintro rfl; rw [hk1] at hn; cases hn
    exact ⟨rfl, ⟨sub_new hn0 hs1, hp_ne n1.symm hm1, hp_ne n2.symm hk1, s.km, .inr ⟨rest, hp_same _ _ _, by simp only [List.length_append, List.length_singleton]; omega, hn0, n1, n2⟩⟩⟩
theorem ins_0 {bl cap : Nat} {c : V} {h : Heap} : Gives Tryz.prog 184 [.sref 1 bl 0 0 cap, .int .i64 0, .int .i64 0, c] h (.tup []) h := by
  refine c184 rfl ?_
  repeat' (first | ((with_reducible apply Nx.mk); conv => whnf) | ((with_reducible apply Wr.i); (next => first | exact wrap_i64z (by omega) (by omega) | fail)) | refine (fV_i ?_) | fail)
  refine loopS (σ := Unit) (fun _ => frm 53 [(0, .sref 1 bl 0 0 cap), (1, .int .i64 0), (2, .int .i64 0), (3, c), (8, .int .i64 1)]) (fun _ => []) (fun _ => 0) (fun _ h' => h' = h) () rfl rfl ?_
  rintro ⟨⟩ h' rfl
  repeat' (first | ((with_reducible apply Nx.mk); conv => whnf) | ((with_reducible first | apply brS_i | apply spB_i) <;> intro c <;> (try exact absurd c (by decide)) <;> (try simp only [decide_eq_true_eq, decide_eq_false_iff_not, beq_iff_eq, bne_iff_ne, Bool.not_eq_true', Bool.not_eq_false', beq_eq_false_iff_ne, Bool.not_true, Bool.not_false, reduceCtorEq, ne_eq, bne_eq_false_iff_eq, Int.not_lt, Int.not_le, Decidable.not_not] at c) <;> (try (exfalso; omega))) | refine (fV_i ?_) | fail)
  exact Js.Fin.mk ⟨.rfl _, Heap.sub_rfl _⟩
theorem stable_0 {bl cap m : Nat} {h : Heap} : Gives Tryz.prog 174 [.sref 1 bl 0 0 cap, .int .i64 0, .fn (.func 143) [] [.ptr m 0]] h (.tup []) h := by
  refine c174 rfl ?_
  repeat' (first | ((with_reducible apply Nx.mk); conv => whnf) | fail)
  refine loopS (σ := Unit) (fun _ => frm 63 [(0, .sref 1 bl 0 0 cap), (1, .int .i64 0), (2, .fn (.func 143) [] [.ptr m 0]), (6, .int .i64 20), (7, .int .i64 0), (8, .int .i64 20)]) (fun _ => []) (fun _ => 0) (fun _ h' => h' = h) () rfl rfl ?_
  rintro ⟨⟩ h' rfl
  repeat' (first | ((with_reducible apply Nx.mk); conv => whnf) | ((with_reducible first | apply brS_i | apply spB_i) <;> intro c <;> (try exact absurd c (by decide)) <;> (try simp only [decide_eq_true_eq, decide_eq_false_iff_not, beq_iff_eq, bne_iff_ne, Bool.not_eq_true', Bool.not_eq_false', beq_eq_false_iff_ne, Bool.not_true, Bool.not_false, reduceCtorEq, ne_eq, bne_eq_false_iff_eq, Int.not_lt, Int.not_le, Decidable.not_not] at c) <;> (try (exfalso; omega))) | ((with_reducible apply HN.i); (next => first | rfl | fail)) | refine CallS.gives n184 (ins_0) ?_ | fail)
  refine loopS (σ := Unit) (fun _ => frm 63 [(0, .sref 1 bl 0 0 cap), (1, .int .i64 0), (2, .fn (.func 143) [] [.ptr m 0]), (6, .int .i64 20)]) (fun _ => []) (fun _ => 0) (fun _ h2 => h2 = h') () rfl rfl ?_
  rintro ⟨⟩ h2 rfl
  repeat' (first | ((with_reducible apply Nx.mk); conv => whnf) | ((with_reducible first | apply brS_i | apply spB_i) <;> intro c <;> (try exact absurd c (by decide)) <;> (try simp only [decide_eq_true_eq, decide_eq_false_iff_not, beq_iff_eq, bne_iff_ne, Bool.not_eq_true', Bool.not_eq_false', beq_eq_false_iff_ne, Bool.not_true, Bool.not_false, reduceCtorEq, ne_eq, bne_eq_false_iff_eq, Int.not_lt, Int.not_le, Decidable.not_not] at c) <;> (try (exfalso; omega))) | fail)
  exact Js.Fin.mk ⟨.rfl _, Heap.sub_rfl _⟩
theorem sorts_0 {bl cap m : Nat} {h : Heap} : Gives Tryz.prog 142 [.sref 1 bl 0 0 cap, .fn (.func 143) [] [.ptr m 0]] h (.tup []) h := by
  refine c142 rfl ?_
  repeat' (first | ((with_reducible apply Nx.mk); conv => whnf) | ((with_reducible apply HN.i); (next => first | rfl | fail)) | refine CallS.gives n174 (stable_0) ?_ | fail)
  exact Js.Fin.mk ⟨.rfl _, Heap.sub_rfl _⟩
theorem order_c {fs : List (List UInt8)} {g : G} {h : Heap} (hl : fs.length ≤ 10) (hb : ∀ b ∈ fs, b.length ≤ 1048576) :
    CallW Tryz.prog 105 [.sl 1 (fv fs) g] h fun r' h' => h.Sub h' ∧ ∃ bl cap, r' = .sref 1 bl 0 (ord fs).length cap ∧ ((ord fs = [] ∧ bl = 0 ∧ cap = 0) ∨ (∃ R : List V, h' bl = some (.cells (iv (ord fs) ++ R)) ∧ h bl = none)) := by
  refine c105 rfl ?_
  repeat' (first | ((with_reducible apply Nx.mk); conv => whnf) | ((with_reducible apply RdH.i); (next => ((repeat (first | exact hp_same _ _ _ | fail)); (first | done | fail)))) | ((with_reducible apply Nm.i); (next => first | with_reducible exact fv_len _ | fail)) | ((with_reducible apply New.i); intro l hl) | ((with_reducible apply Up.i); (next => first | exact upd_upd _ _ _ _ | fail)) | with_reducible intro _ | fail)
  rename_i k hk
  refine loopS (σ := Nat × Nat × Nat) (fun s => frm 35 [(2, .sref 1 s.2.1 0 (ordL fs s.1).length s.2.2), (3, .ptr l 0), (9, .sl 1 (fv fs) g), (10, .int .i64 fs.length), (11, .int .i64 s.1)]) (fun _ => []) (fun s => fs.length - s.1)
    (fun s h' => s.1 ≤ fs.length ∧ OS h h' l k s.2.1 s.2.2 fs (ordL fs s.1)) (0, 0, 0) rfl ⟨by simp, by (repeat (first | exact Heap.sub_rfl _ | refine sub_new (by (repeat (first | with_reducible assumption | exact none_of (by with_reducible assumption) | fail))) ?_ | fail)), by ((repeat (first | exact hp_same _ _ _ | fail)); (first | done | fail)), by ((repeat (first | exact hp_same _ _ _ | refine hp_new (by with_reducible assumption) ?_ | fail)); (first | done | fail)), by assumption, .inl ⟨rfl, rfl, rfl⟩⟩ ?_
  rintro ⟨i, bl, cap⟩ h' ⟨k1, os⟩
  simp only at k1 os ⊢
  have o1 := os.hm
  have o2 := os.hk
  have hlen := ordL_len fs i
  have hfb : (fa fs i).length < 4294967200 := by
    unfold fa; rw [List.getD_eq_getElem?_getD]
    cases he : fs[i]? with
    | none => simp
    | some b => have := hb b (List.mem_of_getElem? he); simp; omega
  have mu := mp_upd (fs := fs) i (l := ordL fs i) fun y hy => ordL_lt hy
  unfold fk at mu
  repeat' (first | ((with_reducible apply Nx.mk); conv => whnf) | ((with_reducible apply RdC.i); (next => ((repeat (first | with_reducible assumption | fail)); (first | done | fail))); (next => first | rfl | fail)) | ((with_reducible apply RdV.i); (next => first | rfl | fail)) | ((with_reducible first | apply brS_i | apply spB_i) <;> intro c <;> (try exact absurd c (by decide)) <;> (try simp only [decide_eq_true_eq, decide_eq_false_iff_not, beq_iff_eq, bne_iff_ne, Bool.not_eq_true', Bool.not_eq_false', beq_eq_false_iff_ne, Bool.not_true, Bool.not_false, reduceCtorEq, ne_eq, bne_eq_false_iff_eq, Int.not_lt, Int.not_le, Decidable.not_not] at c) <;> (try (exfalso; omega))) | ((with_reducible apply RdE.i); (next => first | with_reducible rfl | fail); (next => first | with_reducible exact fv_at (by omega) | fail)) | ((with_reducible apply Wr.i); (next => first | with_reducible exact wn_addl (by omega) | fail)) | ((with_reducible apply HN.i); (next => first | rfl | fail)) | refine CallS.gives n54 (headOf_g _ _ hfb) ?_ | refine (MapUp.i (by ((repeat (first | with_reducible assumption | fail)); (first | done | fail))) mu ?_) | with_reducible apply And.intro | exact trivial | with_reducible intro _ | exact Nat.le_of_ble_eq_true rfl | fail)
  · unfold mostLen; (try simp only [List.length_singleton]); omega
  · exact os.room
  · rename_i ap
    have hfo : fo fs i = true := c
    obtain ⟨rfl, os2⟩ := os.step (none_of hl) (none_ne hl).symm ap
    rw [← ordL_yes hfo] at os2
    refine Js.Fin.mk ⟨(i + 1, _, _), ?_, ⟨by simp only; omega, os2⟩, by simp only; omega⟩
    simp only [ordL_yes hfo, List.length_append] <;> rfl
  · have hfo : fo fs i = false := c
    refine Js.Fin.mk ⟨(i + 1, bl, cap), ?_, ⟨by simp only; omega, by simp only [ordL_no hfo]; exact os⟩, by simp only; omega⟩
    simp only [ordL_no hfo]; rfl
  · obtain rfl : i = fs.length := by omega
    rcases os.blk with ⟨e1, rfl, rfl⟩ | ⟨R, e1, e2, e3, n1, n2⟩
    · have hz : ord fs = [] := by unfold ord; rw [e1]; rfl
      rw [e1]
      repeat' (first | ((with_reducible apply Nx.mk); conv => whnf) | ((with_reducible apply HN.i); (next => first | rfl | fail)) | refine CallS.gives n142 (sorts_0) ?_ | fail)
      refine Js.Fin.mk ⟨os.sub, 0, 0, by rw [hz] <;> rfl, .inl ⟨hz, rfl, rfl⟩⟩
    · repeat' (first | ((with_reducible apply Nx.mk); conv => whnf) | ((with_reducible apply HN.i); (next => first | rfl | fail)) | refine CallS.gives n142 (sorts_c os.hm os.hk e1 n1 n2 (fun x hx => mp_find hx) rfl (by omega)) ?_ | fail)
      refine Js.Fin.mk ⟨sub_new e3 os.sub, bl, cap, by rw [ord_len], .inr ⟨R, hp_same _ _ _, e3⟩⟩
end J
end

section
/- A file, as the document reads it. -/
namespace J
open Go Go.Proofs Jb Js
set_option maxRecDepth 100000
set_option maxHeartbeats 4000000



theorem c69 {args : List V} {h : Heap} {K : V → Heap → Prop} (hn : Nat.ble args.length Tryz.f69.ntmps = true) (e : Nx (bodyS Tryz.prog ⟨[], [], false⟩ Tryz.f69 args h K)) : CallW Tryz.prog 69 args h K := CallW.go mix _ Tryz.func69 (Nat.le_of_ble_eq_true hn) rfl e
theorem n69 : enters Tryz.prog 69 = true := by kernel_rfl
theorem c109 {args : List V} {h : Heap} {K : V → Heap → Prop} (hn : Nat.ble args.length Tryz.f109.ntmps = true) (e : Nx (bodyS Tryz.prog ⟨[], [(4, [0, 2, 3, 1, 1, 53], []), (6, [0, 2, 3, 1, 1, 53], [])], false⟩ Tryz.f109 args h K)) : CallW Tryz.prog 109 args h K := CallW.go mix _ Tryz.func109 (Nat.le_of_ble_eq_true hn) rfl e
theorem n109 : enters Tryz.prog 109 = true := by kernel_rfl
theorem c49 {args : List V} {h : Heap} {K : V → Heap → Prop} (hn : Nat.ble args.length Tryz.f49.ntmps = true) (e : Nx (bodyS Tryz.prog ⟨[50], [(2, [0, 1, 8, 1, 2, 156], []), (12, [0, 2, 2, 1, 5, 158], []), (21, [0, 1, 8, 1, 2, 156], []), (25, [0, 1, 8, 1, 2, 156], []), (34, [0, 1, 8, 1, 2, 156], []), (39, [0, 1, 8, 1, 2, 156], [])], false⟩ Tryz.f49 args h K)) : CallW Tryz.prog 49 args h K := CallW.go mix _ Tryz.func49 (Nat.le_of_ble_eq_true hn) rfl e
theorem n49 : enters Tryz.prog 49 = true := by kernel_rfl
theorem can_gr0 {h : Heap} {es n n' : Nat} {g g' : G} (hg : GNew es n h g g') : Can g' es n' (gr h g' es (0 + n')) := by rw [Nat.zero_add]; exact can_gr hg
theorem sub_two {h0 h : Heap} {es n m k : Nat} {g g' : G} (s : h0.Sub h) (a : GNew es 0 h .full g) (c : GNew es n (gr h g es k) g g') : h0.Sub (gr (gr h g es k) g' es m) := by
  refine sub_gr c (fun t e => ?_) (sub_gr0 a s)
  have hn : h t = none → h0 t = none := fun q => by
    cases ht : h0 t with
    | none => rfl
    | some o => rw [s t o ht] at q; cases q
  cases g with
  | full => exact hn (c.new rfl t e)
  | own u =>
    have := c.own u rfl
    rw [this] at e; cases e
    exact hn (a.new rfl _ rfl)
  | no => exact (a.yes rfl).elim
theorem rlast_g {F : Ent} {L : List Ent} {gb g : G} {n : Nat} (hF : F.b = []) (hl : L.length < 4294967296) {h : Heap} :
    Gives Tryz.prog 69 [.agg [.int .u64 F.ix, .int .u64 F.tm, .sl 1 [] gb, .sl 3 (es L) g, .int .i64 n]] h (.agg [.int .u64 (lastE F L).ix, .int .u64 (lastE F L).tm, .sl 1 (bs (lastE F L).b) .no]) h := by
  refine c69 rfl ?_
  repeat' (first | ((with_reducible apply Nx.mk); conv => whnf) | ((with_reducible apply RdV.i); (next => first | rfl | fail)) | ((with_reducible first | apply brS_i | apply spB_i) <;> intro c <;> (try exact absurd c (by decide)) <;> (try simp only [decide_eq_true_eq, decide_eq_false_iff_not, beq_iff_eq, bne_iff_ne, Bool.not_eq_true', Bool.not_eq_false', beq_eq_false_iff_ne, Bool.not_true, Bool.not_false, reduceCtorEq, ne_eq, bne_eq_false_iff_eq, Int.not_lt, Int.not_le, Decidable.not_not] at c) <;> (try (exfalso; omega))) | ((with_reducible apply RdE.i); (next => first | with_reducible rfl | fail); (next => first | with_reducible exact es_at (by omega) | fail)) | ((with_reducible apply Nm.i); (next => first | with_reducible exact es_len _ | fail)) | ((with_reducible apply Wr.i); (next => first | with_reducible exact wn_subl (by omega) (by omega) | fail)) | with_reducible apply And.intro | exact trivial | exact Nat.le_of_ble_eq_true rfl | exact rfl | fail)
  · refine Js.Fin.mk ⟨?_, by (repeat (first | exact Heap.sub_rfl _ | fail))⟩
    unfold lastE
    rw [if_pos (by omega), hF]
    exact .aggL (.cons (.rfl _) (.cons (.rfl _) (.cons (.sl _ _ _) .nil)))
  · refine Js.Fin.mk ⟨?_, by (repeat (first | exact Heap.sub_rfl _ | fail))⟩
    unfold lastE
    rw [if_neg (by omega)]
    exact .rfl _
theorem fI_eq {L : List Ent} {a b i : Nat} (hi : i < L.length) (h1 : (ea L i).ix = a) (h2 : (ea L i).tm = b) (k2 : ∀ k, k < i → ¬ ((ea L k).ix = a ∧ (ea L k).tm = b)) : fI L a b = i := by
  unfold fI
  rw [List.findIdx_eq hi]
  refine ⟨by rw [← ea_get hi]; simp [h1, h2], fun k hk => ?_⟩
  have := k2 k hk
  rw [ea_get (by omega)] at this
  simpa using this
theorem fI_none {L : List Ent} {a b : Nat} (k2 : ∀ k, k < L.length → ¬ ((ea L k).ix = a ∧ (ea L k).tm = b)) : ¬ fI L a b < L.length := fun q => by
  unfold fI at q
  have := List.findIdx_getElem (w := q)
  have h3 := k2 _ q
  rw [ea_get q] at h3
  simp at this
  exact h3 this
theorem rto_g {F : Ent} {L : List Ent} {gb g gx : G} {n a b : Nat} (hl : L.length < 4294967200) {h : Heap} :
    Gives Tryz.prog 109 [.agg [.int .u64 F.ix, .int .u64 F.tm, .sl 1 [] gb, .sl 3 (es L) g, .int .i64 n], .agg [.int .u64 a, .int .u64 b, .sl 1 [] gx]] h
      (.tup [.agg [.int .u64 F.ix, .int .u64 F.tm, .sl 1 [] .no, .sl 3 (es (toL F L a b)) .no, .int .i64 n], .bool (toOk F L a b)]) h := by
  refine c109 rfl ?_
  repeat' (first | ((with_reducible apply Nx.mk); conv => whnf) | ((with_reducible apply RdV.i); (next => first | rfl | fail)) | ((with_reducible first | apply brS_i | apply spB_i) <;> intro c <;> (try exact absurd c (by decide)) <;> (try simp only [decide_eq_true_eq, decide_eq_false_iff_not, beq_iff_eq, bne_iff_ne, Bool.not_eq_true', Bool.not_eq_false', beq_eq_false_iff_ne, Bool.not_true, Bool.not_false, reduceCtorEq, ne_eq, bne_eq_false_iff_eq, Int.not_lt, Int.not_le, Decidable.not_not] at c) <;> (try (exfalso; omega))) | with_reducible apply And.intro | exact trivial | with_reducible intro _ | exact Nat.le_of_ble_eq_true rfl | exact rfl | fail)
  · refine Js.Fin.mk ⟨?_, by (repeat (first | exact Heap.sub_rfl _ | fail))⟩
    rw [show toOk F L a b = true from decide_eq_true (.inl ⟨by omega, by omega⟩), show toL F L a b = [] from if_pos ⟨by omega, by omega⟩]
    exact .tupL (.cons (.aggL (.cons (.rfl _) (.cons (.rfl _) (.cons (.sl _ _ _) (.cons (.sl _ _ _) (.cons (.rfl _) .nil)))))) (.cons (.rfl _) .nil))
  all_goals have hN : ¬ (a = F.ix ∧ b = F.tm) := by omega
  all_goals (
    refine loopS (σ := Nat) (fun i => frm 60 [(2, .lp 2 0), (3, .lp 3 0), (4, .lp 4 0), (6, .int .i64 i)]) (fun _ => [(2, [.int .u64 F.ix, .int .u64 F.tm, .sl 1 [] gb, .sl 3 (es L) g, .int .i64 n]), (3, [.int .u64 a, .int .u64 b, .sl 1 [] gx]), (4, [.int .u64 0, .int .u64 0, .sl 1 [] .full, .sl 3 [] .full, .int .i64 0])]) (fun i => L.length - i)
      (fun i h' => h' = h ∧ i ≤ L.length ∧ ∀ k, k < i → ¬ ((ea L k).ix = a ∧ (ea L k).tm = b)) 0 rfl ⟨rfl, by simp, by simp⟩ ?_
    rintro i h ⟨rfl, k1, k2⟩
    simp only at k1 k2 ⊢
    repeat' (first | ((with_reducible apply Nx.mk); conv => whnf) | ((with_reducible apply RdV.i); (next => first | rfl | fail)) | ((with_reducible first | apply brS_i | apply spB_i) <;> intro c <;> (try exact absurd c (by decide)) <;> (try simp only [decide_eq_true_eq, decide_eq_false_iff_not, beq_iff_eq, bne_iff_ne, Bool.not_eq_true', Bool.not_eq_false', beq_eq_false_iff_ne, Bool.not_true, Bool.not_false, reduceCtorEq, ne_eq, bne_eq_false_iff_eq, Int.not_lt, Int.not_le, Decidable.not_not] at c) <;> (try (exfalso; omega))) | ((with_reducible apply RdE.i); (next => first | with_reducible rfl | fail); (next => first | with_reducible exact es_at (by omega) | fail)) | ((with_reducible apply Nm.i); (next => first | with_reducible exact es_len _ | with_reducible exact List.length_nil | with_reducible exact List.nil_append _ | fail)) | ((with_reducible apply Wr.i); (next => first | with_reducible exact wn_addl (by omega) | fail)) | ((with_reducible apply Part.i); (next => first | with_reducible exact cast_ofNat _ | fail); (next => first | with_reducible rfl | fail); (next => omega); (next => first | omega | fail); (next => first | with_reducible exact es_part _ _ _ | fail)) | ((with_reducible apply App.i); (next => (repeat (first | exact .full | fail))); intro g' hg') | ((with_reducible apply Plan.i); (next => kernel_rfl); (next => kernel_rfl)) | with_reducible apply And.intro | exact trivial | with_reducible intro _ | exact Nat.le_of_ble_eq_true rfl | fail))
  all_goals first
    | (unfold mostLen; simp only [List.length_drop, List.length_take]; omega)
    | (refine Js.Fin.mk ⟨i + 1, rfl, ⟨rfl, by omega, fun k hk => ?_⟩, by omega⟩
       by_cases e : k = i
       · subst e; omega
       · exact k2 k (by omega))
    | (have hi : i < L.length := by omega
       have e := fI_eq hi (by omega) (by omega) k2
       refine Js.Fin.mk ⟨?_, by (repeat (first | exact Heap.sub_rfl _ | refine sub_gr0 (by with_reducible assumption) ?_ | fail))⟩
       rw [show toOk F L a b = true from decide_eq_true (.inr (by omega)), show toL F L a b = L.take (i + 1) from by unfold toL; rw [if_neg hN, if_pos (by omega), e]]
       exact .tupL (.cons (.aggL (.cons (.rfl _) (.cons (.rfl _) (.cons (.sl _ _ _) (.cons (.sl _ _ _) (.cons (.rfl _) .nil)))))) (.cons (.rfl _) .nil)))
    | (have e := fI_none (fun k hk => k2 k (by omega))
       refine Js.Fin.mk ⟨?_, by (repeat (first | exact Heap.sub_rfl _ | fail))⟩
       rw [show toOk F L a b = false from decide_eq_false (by omega), show toL F L a b = L from by unfold toL; rw [if_neg hN, if_neg e]]
       exact .tupL (.cons (.aggL (.cons (.rfl _) (.cons (.rfl _) (.cons (.sl _ _ _) (.cons (.sl _ _ _) (.cons (.rfl _) .nil)))))) (.cons (.rfl _) .nil)))
theorem endC_alt (b : List UInt8) : endC b = if (restP b).length = 0 then 0 else tkE (restP b) := by
  obtain ⟨h1, h2⟩ := rest_at' b
  have h3 : (restP b).length = b.length - endAt b := by rw [h2, List.length_drop]
  unfold endC
  by_cases e : endAt b = b.length
  · rw [if_pos e, if_pos (by omega)]
  · rw [if_neg e, if_neg (by omega)]
theorem endC_go {b : List UInt8} (h : tkE b = 0) : endC (b.drop (tkN b)) = endC b := by rw [endC_alt, endC_alt, restP_ok h]
theorem endC_end {b : List UInt8} (h : tkE b ≠ 0) : endC b = if b.length = 0 then 0 else tkE b := by rw [endC_alt, restP_end h]
theorem exit_leaf {h h1 : Heap} {s s1 : FS} {b b1 : List UInt8} {old new : Bool} {gb1 gl1 : G} {n : Nat} {k : Int} (hsub : h.Sub h1) (e1 : steps old s1 b1 = steps old s b) (e2 : endC b1 = endC b) (e0 : tkE b1 ≠ 0) (hk : k = if ((if b1.length = 0 then 0 else tkE b1) == 0 || ((if b1.length = 0 then 0 else tkE b1) == 31 && new)) = true then 0 else 20) :
    ∃ (gb' g' : G) (F' : Ent) (L' : List Ent) (ok : Bool),
      h.Sub h1 ∧ V.tup [.agg [.int .u64 s1.F.ix, .int .u64 s1.F.tm, .sl 1 [] gb1, .sl 3 (es s1.L) gl1, .int .i64 n], .int .i64 k] = V.tup [.agg [.int .u64 F'.ix, .int .u64 F'.tm, .sl 1 [] gb', .sl 3 (es L') g', .int .i64 n], .int .i64 (if ok = true then 0 else 20)] ∧ (match steps old s b with | some t => ok = (endC b == 0 || (endC b == 31 && new)) ∧ F' = t.F ∧ L' = t.L | none => ok = false) := by
  have hss : steps old s b = some s1 := by rw [← e1, steps_end e0]
  have hc : endC b = if b1.length = 0 then 0 else tkE b1 := by rw [← e2, endC_end e0]
  refine ⟨gb1, gl1, s1.F, s1.L, (endC b == 0 || (endC b == 31 && new)), hsub, ?_, ?_⟩
  · rw [hk, hc]
  · rw [hss]; exact ⟨rfl, rfl, rfl⟩
theorem ex_1 (b1 : List UInt8) (new : Bool) (c : (tkE b1 : Int) = 31) (l : 0 < (b1.length : Int)) (c2 : new = true) : (0 : Int) = if ((if b1.length = 0 then 0 else tkE b1) == 0 || ((if b1.length = 0 then 0 else tkE b1) == 31 && new)) = true then 0 else 20 := by
  rw [if_neg (show ¬ b1.length = 0 by omega), show tkE b1 = 31 by omega, c2]; rfl
theorem ex_2 (b1 : List UInt8) (new : Bool) (c : (tkE b1 : Int) = 31) (l : 0 < (b1.length : Int)) (c2 : new = false) : (20 : Int) = if ((if b1.length = 0 then 0 else tkE b1) == 0 || ((if b1.length = 0 then 0 else tkE b1) == 31 && new)) = true then 0 else 20 := by
  rw [if_neg (show ¬ b1.length = 0 by omega), show tkE b1 = 31 by omega, c2]; rfl
theorem ex_0 (b1 : List UInt8) (new : Bool) (l : (b1.length : Int) ≤ 0) : (0 : Int) = if ((if b1.length = 0 then 0 else tkE b1) == 0 || ((if b1.length = 0 then 0 else tkE b1) == 31 && new)) = true then 0 else 20 := by
  rw [if_pos (show b1.length = 0 by omega)]; rfl
theorem ex_3 (b1 : List UInt8) (new : Bool) (c : ¬ (tkE b1 : Int) = 31) (c2 : ¬ (tkE b1 : Int) = 0) (l : 0 < (b1.length : Int)) : (20 : Int) = if ((if b1.length = 0 then 0 else tkE b1) == 0 || ((if b1.length = 0 then 0 else tkE b1) == 31 && new)) = true then 0 else 20 := by
  rw [if_neg (show ¬ b1.length = 0 by omega), show (tkE b1 == 0) = false from beq_eq_false_iff_ne.2 (by omega), show (tkE b1 == 31) = false from beq_eq_false_iff_ne.2 (by omega)]; rfl
theorem tkE_nil {b : List UInt8} (h : b.length = 0) : tkE b = 31 := by
  have : b = [] := List.length_eq_zero_iff.1 h
  subst this; rfl
theorem step_1a {old : Bool} {s : FS} {k : Nat} {b : List UInt8} (hk : k = 1) (h1 : hdOk k b = true) (h2 : s.begun = false) (h3 : (old || hdNew b) = true) :
    step1 old s k b = some ⟨⟨hdIx b, hdTm b, []⟩, [], true, hdIx b⟩ := by rw [step_1 hk h1 h2 (by rw [h3]; rfl), if_pos h3, if_pos h3]
theorem step_1b {old : Bool} {s : FS} {k : Nat} {b : List UInt8} (hk : k = 1) (h1 : hdOk k b = true) (h2 : s.begun = false) (h3 : (old || hdNew b) = false) (h4 : toOk s.F s.L (hdIx b) (hdTm b) = true) :
    step1 old s k b = some ⟨s.F, toL s.F s.L (hdIx b) (hdTm b), true, hdIx b⟩ := by rw [step_1 hk h1 h2 (by rw [h3, h4]; rfl), if_neg (by rw [h3]; decide), if_neg (by rw [h3]; decide)]
theorem toOk_le {s : FS} {c : List UInt8} {m a b : Nat} (w : Wf s c m) (h : toOk s.F s.L a b = true) : s.F.ix ≤ a := by
  rcases of_decide_eq_true h with h | h
  · omega
  · have q := h
    unfold fI at q
    have h1 := List.findIdx_getElem (w := q)
    have h2 := w.ixs _ q
    rw [ea_get q] at h2
    simp at h1
    omega
theorem rfile_c {h : Heap} {s : FS} {gb g : G} {n : Nat} (hs : s.begun = false) (ho : s.own = 0) (b : List UInt8) (g0 : G) (old new : Bool) (w : Wf s b 4294967100) (hf : tkK b = 1) :
    CallW Tryz.prog 49 [.agg [.int .u64 s.F.ix, .int .u64 s.F.tm, .sl 1 [] gb, .sl 3 (es s.L) g, .int .i64 n], .sl 1 (bs b) g0, .bool old, .bool new] h fun r' h' => ∃ (gb' g' : G) (F' : Ent) (L' : List Ent) (ok : Bool),
      h.Sub h' ∧ r' = .tup [.agg [.int .u64 F'.ix, .int .u64 F'.tm, .sl 1 [] gb', .sl 3 (es L') g', .int .i64 n], .int .i64 (if ok then 0 else 20)] ∧ (match steps old s b with | some t => ok = (endC b == 0 || (endC b == 31 && new)) ∧ F' = t.F ∧ L' = t.L | none => ok = false) := by
  refine c49 rfl ?_
  repeat' (first | ((with_reducible apply Nx.mk); conv => whnf) | with_reducible apply And.intro | exact trivial | exact rfl | fail)
  refine loopS (σ := FS × List UInt8 × G × G × G) (fun x => frm 168 [(1, .sl 1 (bs x.2.1) x.2.2.1), (2, .bool old), (3, .bool new), (4, .lp 4 0), (8, .lp 8 0), (10, .bool x.1.begun), (11, .int .u64 x.1.own)])
    (fun x => [(4, [.int .u64 x.1.F.ix, .int .u64 x.1.F.tm, .sl 1 [] x.2.2.2.1, .sl 3 (es x.1.L) x.2.2.2.2, .int .i64 n]), (8, [.int .u64 0, .int .u64 0, .sl 1 [] .full, .sl 3 [] .full, .int .i64 0])]) (fun x => x.2.1.length)
    (fun x h' => h.Sub h' ∧ Wf x.1 x.2.1 4294967100 ∧ steps old x.1 x.2.1 = steps old s b ∧ endC x.2.1 = endC b ∧ (tkK x.2.1 ≠ 1 → x.1.F.ix ≤ x.1.own)) (s, b, g0, gb, g) (by rw [hs, ho]; rfl) ⟨Heap.sub_rfl _, w, rfl, rfl, fun q => (q hf).elim⟩ ?_
  rintro ⟨s1, b1, g1, gb1, gl1⟩ h1 ⟨hsub, w1, e1, e2, e3⟩
  simp only at w1 e1 e2 e3 ⊢
  have q := tkN_le b1
  have q1 := tkB_len b1
  have w2 := w1.len
  have w3 := w1.own
  have x1 := ad1_len (tkB b1)
  have x2 := ad2_len (tkB b1)
  have x3 := natV_le 4611686018427387904 (tkB b1)
  have x4 := natV_le 18446744073709551615 (tkB b1)
  have x5 := w1.last
  repeat' (first | ((with_reducible apply Nx.mk); conv => whnf) | ((with_reducible apply RdV.i); (next => first | rfl | fail)) | ((with_reducible first | apply brS_i | apply spB_i) <;> intro c <;> (try exact absurd c (by decide)) <;> (try simp only [decide_eq_true_eq, decide_eq_false_iff_not, beq_iff_eq, bne_iff_ne, Bool.not_eq_true', Bool.not_eq_false', beq_eq_false_iff_ne, Bool.not_true, Bool.not_false, reduceCtorEq, ne_eq, bne_eq_false_iff_eq, Int.not_lt, Int.not_le, Decidable.not_not] at c) <;> (try (exfalso; omega))) | ((with_reducible apply Nm.i); (next => first | with_reducible exact bs_len _ | with_reducible exact tx_bs _ | with_reducible exact es_len _ | with_reducible exact es_snoc _ _ _ _ | with_reducible exact List.length_nil | with_reducible exact List.nil_append _ | rfl | fail)) | ((with_reducible apply Wr.i); (next => first | with_reducible exact wu_subl (by omega) (by omega) | with_reducible exact wu_sub (by omega) (by omega) | fail)) | ((with_reducible apply Part.i); (next => first | with_reducible exact cast_ofNat _ | with_reducible rfl | fail); (next => first | with_reducible rfl | fail); (next => omega); (next => first | omega | fail); (next => first | with_reducible exact bs_to _ _ | with_reducible exact es_part _ _ _ | fail)) | ((with_reducible apply New.i); intro l hl) | ((with_reducible apply App.i); (next => (repeat (first | exact .full | exact can_gr0 (by with_reducible assumption) | fail))); intro g' hg') | ((with_reducible apply HN.i); (next => first | exact upd_upd _ _ _ _ | rfl | fail)) | ((with_reducible apply Plan.i); (next => kernel_rfl); (next => kernel_rfl)) | refine (fV_i ?_) | refine CallS.gives n107 (rtake_g _ _ (by omega)) ?_ | refine CallS.gives n108 (rhead_g _ _ _ (by omega)) ?_ | refine CallS.gives n109 (rto_g (by omega)) ?_ | refine CallS.gives n110 (rnat_g _ _ _ (most := 4611686018427387904) (by ((repeat (first | exact hp_same _ _ _ | fail)); (first | done | fail))) (by omega) (by omega)) ?_ | refine CallS.gives n110 (rnat_g _ _ _ (most := 18446744073709551615) (by ((repeat (first | exact hp_same _ _ _ | fail)); (first | done | fail))) (by omega) (by omega)) ?_ | refine CallS.gives n111 (rtext_g _ _ _ (most := 512) (by ((repeat (first | exact hp_same _ _ _ | fail)); (first | done | fail))) (by omega) (by omega)) ?_ | refine CallS.gives n112 (rend_g _ _ _ (by ((repeat (first | exact hp_same _ _ _ | fail)); (first | done | fail)))) ?_ | refine CallS.gives n69 (rlast_g w1.nob (by omega)) ?_ | with_reducible apply And.intro | exact trivial | exact EqV.mk rfl | with_reducible intro _ | exact Nat.le_of_ble_eq_true rfl | exact rfl | fail)
  all_goals try (
    have z := tkE_nil (b := b1)
    refine Js.Fin.mk (exit_leaf hsub e1 e2 (by omega) ?_)
    first
    | exact ex_0 b1 new (by omega)
    | exact ex_1 b1 new (by omega) (by omega) (by assumption)
    | exact ex_2 b1 new (by omega) (by omega) (by assumption)
    | exact ex_3 b1 new (by omega) (by omega) (by omega))
  all_goals have e0 : tkE b1 = 0 := by omega
  all_goals have q2 := tk_len e0
  all_goals try (
    have hst : step1 old s1 (tkK b1) (tkB b1) = none := by
      first
      | exact step_no1 (by omega) (.inl (by assumption))
      | exact step_no1 (by omega) (.inr (.inl (by assumption)))
      | exact step_no1 (by omega) (.inr (.inr (by rw [show old = false from by assumption, show hdNew (tkB b1) = false from by assumption, show toOk s1.F s1.L (hdIx (tkB b1)) (hdTm (tkB b1)) = false from by assumption]; rfl)))
      | (refine step_no2 (by omega) ?_
         rw [Bool.eq_false_iff]
         intro q
         unfold adOk adE adEnt ad2 ad1 at q
         simp only [Bool.and_eq_true, beq_iff_eq, bne_iff_ne, decide_eq_true_eq, ne_eq] at q
         omega)
      | (refine step_no3 (by omega) ?_
         rw [Bool.eq_false_iff]
         intro q
         unfold ctOk ctE ctFrom at q
         simp only [Bool.and_eq_true, beq_iff_eq, bne_iff_ne, decide_eq_true_eq, ne_eq] at q
         omega)
      | exact step_no (by omega) (by omega) (by omega)
    have hss : steps old s b = none := by rw [← e1, steps_go e0, hst]
    exact Js.Fin.mk ⟨_, _, s1.F, s1.L, false, fun x o e => (by (repeat (first | exact Heap.sub_rfl _ | refine sub_new (by (repeat (first | with_reducible assumption | fail))) ?_ | fail)) : Heap.Sub h1 _) x o (hsub x o e), rfl, by rw [hss]⟩)
  all_goals first
    | (have hst := step_1a (old := old) (s := s1) (k := tkK b1) (b := tkB b1) (by omega) (by assumption) (by assumption) (by rw [show old = true from by assumption]; rfl)
       exact Js.Fin.mk ⟨(⟨⟨hdIx (tkB b1), hdTm (tkB b1), []⟩, [], true, hdIx (tkB b1)⟩, b1.drop (tkN b1), _, _, _), rfl, ⟨fun x o e => (by (repeat (first | exact Heap.sub_rfl _ | refine sub_new (by (repeat (first | with_reducible assumption | fail))) ?_ | fail)) : Heap.Sub h1 _) x o (hsub x o e), w1.step e0 hst, by rw [← e1, steps_go e0, hst], by rw [← e2, endC_go e0], fun _ => Nat.le_refl _⟩, by simp only [List.length_drop]; omega⟩)
    | (have hst := step_1a (old := old) (s := s1) (k := tkK b1) (b := tkB b1) (by omega) (by assumption) (by assumption) (by rw [show hdNew (tkB b1) = true from by assumption]; exact Bool.or_true _)
       exact Js.Fin.mk ⟨(⟨⟨hdIx (tkB b1), hdTm (tkB b1), []⟩, [], true, hdIx (tkB b1)⟩, b1.drop (tkN b1), _, _, _), rfl, ⟨fun x o e => (by (repeat (first | exact Heap.sub_rfl _ | refine sub_new (by (repeat (first | with_reducible assumption | fail))) ?_ | fail)) : Heap.Sub h1 _) x o (hsub x o e), w1.step e0 hst, by rw [← e1, steps_go e0, hst], by rw [← e2, endC_go e0], fun _ => Nat.le_refl _⟩, by simp only [List.length_drop]; omega⟩)
    | (have hst := step_1b (old := old) (s := s1) (k := tkK b1) (b := tkB b1) (by omega) (by assumption) (by assumption) (by rw [show old = false from by assumption, show hdNew (tkB b1) = false from by assumption]; rfl) (by assumption)
       exact Js.Fin.mk ⟨(⟨s1.F, toL s1.F s1.L (hdIx (tkB b1)) (hdTm (tkB b1)), true, hdIx (tkB b1)⟩, b1.drop (tkN b1), _, _, _), rfl, ⟨fun x o e => (by (repeat (fail)) : Heap.Sub h1 _) x o (hsub x o e), w1.step e0 hst, by rw [← e1, steps_go e0, hst], by rw [← e2, endC_go e0], fun _ => toOk_le w1 (by assumption)⟩, by simp only [List.length_drop]; omega⟩)
    | (have hk : adOk s1.F s1.L (tkB b1) = true := by
         unfold adOk adE adEnt ad2 ad1
         simp only [Bool.and_eq_true, beq_iff_eq, bne_iff_ne, decide_eq_true_eq, ne_eq]
         omega
       have hst := step_2 (old := old) (s := s1) (k := tkK b1) (b := tkB b1) (by omega) hk
       rw [show adL s1.F s1.L (tkB b1) = s1.L ++ [adEnt (tkB b1)] from if_pos hk] at hst
       exact Js.Fin.mk ⟨(⟨s1.F, s1.L ++ [adEnt (tkB b1)], s1.begun, s1.own⟩, b1.drop (tkN b1), _, _, _), rfl, ⟨fun x o e => (by (repeat (first | exact Heap.sub_rfl _ | refine sub_two ?_ (by with_reducible assumption) (by with_reducible assumption) | refine sub_new (by (repeat (first | with_reducible assumption | fail))) ?_ | fail)) : Heap.Sub h1 _) x o (hsub x o e), w1.step e0 hst, by rw [← e1, steps_go e0, hst], by rw [← e2, endC_go e0], fun _ => e3 (by omega)⟩, by simp only [List.length_drop]; omega⟩)
    | (have hk : ctOk s1.F s1.L s1.own (tkB b1) = true := by
         unfold ctOk ctE ctFrom
         simp only [Bool.and_eq_true, beq_iff_eq, bne_iff_ne, decide_eq_true_eq, ne_eq]
         omega
       have hst := step_3 (old := old) (s := s1) (k := tkK b1) (b := tkB b1) (by omega) hk
       rw [show ctL s1.F s1.L s1.own (tkB b1) = s1.L.take (ctFrom (tkB b1) - 1 - s1.F.ix) from if_pos hk] at hst
       exact Js.Fin.mk ⟨(⟨s1.F, s1.L.take (ctFrom (tkB b1) - 1 - s1.F.ix), s1.begun, s1.own⟩, b1.drop (tkN b1), _, _, _), rfl, ⟨fun x o e => (by (repeat (first | exact Heap.sub_rfl _ | refine sub_gr0 (by with_reducible assumption) ?_ | refine sub_new (by (repeat (first | with_reducible assumption | fail))) ?_ | fail)) : Heap.Sub h1 _) x o (hsub x o e), w1.step e0 hst, by rw [← e1, steps_go e0, hst], by rw [← e2, endC_go e0], fun _ => e3 (by omega)⟩, by simp only [List.length_drop]; omega⟩)
    | (unfold mostLen; (try simp only [List.length_drop, List.length_take, List.length_append, List.length_singleton, List.length_cons, List.length_nil]); omega)
    | (have hst := step_1b (old := old) (s := s1) (k := tkK b1) (b := tkB b1) (by omega) (by assumption) (by assumption) (by rw [show old = false from by assumption, show hdNew (tkB b1) = false from by assumption]; rfl) (by assumption)
       have hle := toOk_le (a := hdIx (tkB b1)) (b := hdTm (tkB b1)) w1 (by assumption)
       refine Js.Fin.mk ⟨(⟨s1.F, toL s1.F s1.L (hdIx (tkB b1)) (hdTm (tkB b1)), true, hdIx (tkB b1)⟩, b1.drop (tkN b1), .no, .no, .no), ?_, ⟨fun x o e => (by (repeat (first | exact Heap.sub_rfl _ | refine sub_new (by (repeat (first | with_reducible assumption | fail))) ?_ | fail)) : Heap.Sub h1 _) x o (hsub x o e), w1.step e0 hst, by rw [← e1, steps_go e0, hst], by rw [← e2, endC_go e0], fun _ => hle⟩, by simp only [List.length_drop]; omega⟩
       rfl)
end J
end
