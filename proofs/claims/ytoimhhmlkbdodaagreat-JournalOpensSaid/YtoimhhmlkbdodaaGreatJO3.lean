/- Proved here: of JO3, that what the Go functions of this part compute is as their contracts say (texts JbU, JbV, JbW, JbX, JbY), for every input; no condition beyond those that each theorem states. -/
import Derived.Test.YtoimhhmlkbdodaaGreatJO2
import Derived.Orders
import Derived.IntWalk
set_option linter.all false
section
/- Any order of a region's operations: the plan's other orders. -/
namespace Jb
open Go Go.RowKit

section
variable {P : Program} {esc : List Nat} {ops : List Oper}

theorem agains_iff {fr : Fr} {h : Heap} : ∀ {l : List Nat} {R : Prop}, agains P esc ops fr h l R ↔ (∀ r ∈ l, AgainOk P esc ops fr h r) ∧ R
  | [], R => by simp [agains]
  | r :: l, R => by
    simp only [agains, agains_iff (l := l), List.mem_cons, forall_eq_or_imp, and_assoc]

theorem againsG_iff {g : Option (Option Bool)} {fr : Fr} {h : Heap} {l : List Nat} {R : Prop} : againsG P esc ops g fr h l R ↔ (g ≠ some (some false) → ∀ r ∈ l, AgainOk P esc ops fr h r) ∧ R := by
  cases l with
  | nil => simp [againsG]
  | cons a l =>
    cases g with
    | none => simp only [againsG, agains_iff]; simp
    | some g => cases g with
      | none => simp only [againsG, agains_iff]; simp
      | some b => cases b <;> simp [againsG, agains_iff, brW]

theorem AgainOk_iff {fr : Fr} {h : Heap} {j : Nat} {o : Oper} (ho : ops[j]? = some o) : AgainOk P esc ops fr h j ↔ ∃ g d, guardOf ops fr o = some g ∧ o.dst = some d ∧ quietRes (quietQ P esc fr h o) g (fr.tm.getD d .undef) := by
  unfold AgainOk
  rw [ho]
  simp only
  cases hg : guardOf ops fr o with
  | none => simp
  | some g =>
    cases hd : o.dst with
    | none => simp
    | some d =>
      simp only [Option.some.injEq, exists_eq_left', exists_and_left]
      cases quietQ P esc fr h o <;> cases g <;> simp only [quietRes]
      all_goals first
        | exact eq_comm
        | exact and_congr Iff.rfl eq_comm

theorem Does.noLp {o : Oper} {fr : Fr} {h : Heap} {τ : Tr} (D : Does P esc ops o fr h τ) {d : Nat} (n : NoLp d fr) (hb : ¬ Begins esc o d) : NoLp d (τ.app fr) := by
  obtain ⟨g, _, ⟨_, v, ⟨_, hv⟩, rfl⟩ | ⟨h0, _, d', cs, c, hd, _, _, rfl⟩⟩ := D
  · refine NoLp.put n _ ?_
    have hc := quiet_clean (P := P) (h := h) (fr := fr) esc o d n
    cases hq : quietQ P esc fr h o with
    | ok u =>
      rw [hq] at hv hc
      have hv : v = putOpt g u := by cases g <;> exact hv
      subst hv
      cases g <;> exact hc
    | chk c u =>
      rw [hq] at hv hc
      cases g with
      | none => rw [hv.2]; exact hc
      | some b => rw [hv.2]; exact hc
    | bad =>
      rw [hq] at hv
      cases g with
      | none => exact hv.elim
      | some b => rw [hv.2]; exact fun f => f
  · refine NoLp.put (fr := { fr with lc := lcSet d' cs fr.lc }) n (some d') (v := .lp d' 0) ?_
    exact fun e => hb ⟨h0, by rw [hd]; exact congrArg some e⟩

structure Ahead (esc : List Nat) (ops : List Oper) (x y : Oper) : Prop where
  dst : ∀ s, x.dst = some s → y.dst ≠ some s
  read : isRead x.op = true → ∀ s, y.dst = some s → s ∉ x.looksAt ops.toArray

structure FreeOp (esc : List Nat) (ops : List Oper) (rc : List Nat) (y : Oper) (i : Nat) (x : Oper) : Prop where
  quiet : sortOf esc x ≠ 2
  left : ∀ s, x.dst = some s → s ∉ y.looksAt ops.toArray
  right : ∀ s, y.dst = some s → s ∉ x.looksAt ops.toArray
  dst : ∀ s, x.dst = some s → y.dst ≠ some s
  again : sortOf esc y = 2 → isRead x.op = true → i ∈ rc
  own : isRead x.op = true → ∀ s, x.dst = some s → s ∉ x.looksAt ops.toArray

structure Firm (esc : List Nat) (ops : List Oper) (rc : List Nat) (pre : List (Nat × List Nat)) (y : Oper) (fr : Fr) (r : Nat) : Prop where
  mem : r ∈ rc
  spec : ∃ x, ops[r]? = some x ∧ (∀ s, y.dst = some s → s ∉ x.looksAt ops.toArray) ∧
    ∀ p ∈ pre, ∀ z, ops[p.1]? = some z → (∀ s, z.dst = some s → s ∉ x.looksAt ops.toArray ∧ x.dst ≠ some s) ∧ ∀ d, Begins esc z d → ∀ u ∈ x.op.operands.toList, ¬ men d (fr.ev u)

theorem read_quiet {o : Oper} (h : isRead o.op = true) (h2 : sortOf esc o ≠ 2) : sortOf esc o = 0 := by
  obtain ⟨dst, op, type, pos, after, guard⟩ := o
  cases op <;> first | rfl | cases h | skip
  rename_i s d x
  unfold sortOf at *
  simp only at *
  split at h2
  · exact (h2 rfl).elim
  · rfl

theorem same_put {o : Oper} {fr : Fr} {τ : Tr} (h : ∀ s, τ.slot = some s → s ∉ o.looksAt ops.toArray) : Same o ops (τ.app fr) fr := fun t ht => Tr.tm (fun e => h t e ht)

theorem put_long {fr : Fr} {d : Nat} {v : V} (h : fr.tm.length ≤ d) : fr.put (some d) v = fr := by
  simp only [Fr.put]
  rw [List.set_eq_of_length_le h]

theorem load_op {o : Oper} {t : TypeId} {x : Operand} (e : o.op = .load t x) : isRead o.op = true ∧ x ∈ o.op.operands.toList := by
  rw [e]; exact ⟨rfl, by simp [Op.operands]⟩

theorem front {j : Nat} {y : Oper} (hy : ops[j]? = some y) {rc : List Nat} {post : List (Nat × List Nat)} {K : Fr → Heap → Prop} :
    ∀ (pre : List (Nat × List Nat)) (fr : Fr) (h : Heap) (Rs : List Nat),
      (∀ p ∈ pre, p.2 = [] ∧ ∃ x, ops[p.1]? = some x ∧ FreeOp esc ops rc y p.1 x) →
      pre.Pairwise (fun p q => ∀ x z, ops[p.1]? = some x → ops[q.1]? = some z → Ahead esc ops x z) →
      (∀ p ∈ pre, ∀ x, ops[p.1]? = some x → ∀ d, Begins esc x d → NoLp d fr) → (∀ d, Begins esc y d → NoLp d fr) →
      (∀ r ∈ Rs, Firm esc ops rc pre y fr r) →
      runD P esc ops (pre ++ (j, rc) :: post) fr h K → opW P esc ops y fr h fun f h' => runD P esc ops (pre ++ post) f h' K ∧ (guardOf ops fr y ≠ some (some false) → ∀ r ∈ Rs, AgainOk P esc ops f h' r)
  | [], fr, h, Rs, _, _, _, _, hR, hK => by
    simp only [List.nil_append, runD, hy] at hK ⊢
    refine opW_mono hK fun f h' _ k => ?_
    rw [againsG_iff] at k
    exact ⟨k.2, fun hg r hr => k.1 hg r (hR r hr).mem⟩
  | p :: pre, fr, h, Rs, hp, hpp, hn, hny, hR, hK => by
    obtain ⟨hp2, x, hx, F⟩ := hp p (by simp)
    obtain ⟨i, rci⟩ := p
    simp only at hp2 hx F
    subst hp2
    simp only [List.cons_append, runD, hx, againsG] at hK
    rw [opW_iff F.quiet] at hK
    obtain ⟨τ, D, hK⟩ := hK
    have hslot := D.slot
    rw [List.pairwise_cons] at hpp
    have hnx : ∀ d, Begins esc x d → NoLp d fr := hn (i, []) (by simp) x hx
    have hah : ∀ q ∈ pre, ∀ z, ops[q.1]? = some z → Ahead esc ops x z := fun q hq z hz => hpp.1 q hq x z hx hz
    -- what is not begun yet
    have hn1 : ∀ q ∈ pre, ∀ z, ops[q.1]? = some z → ∀ d, Begins esc z d → NoLp d (τ.app fr) := fun q hq z hz d hd =>
      D.noLp (hn q (by simp [hq]) z hz d hd) (fun hb => (hah q hq z hz).dst d hb.2 hd.2)
    have hny1 : ∀ d, Begins esc y d → NoLp d (τ.app fr) := fun d hd => D.noLp (hny d hd) (fun hb => F.dst d hb.2 hd.2)
    have hbeg : ∀ d, τ.begs d → NoLp d fr := fun d hd => hnx d (D.begs hd)
    -- what stands fast
    have hRs : ∀ r ∈ Rs, Firm esc ops rc pre y (τ.app fr) r := fun r hr => by
      obtain ⟨hm, z, hz, h1, h2⟩ := hR r hr
      refine ⟨hm, z, hz, h1, fun q hq u hu => ?_⟩
      obtain ⟨k1, k2⟩ := h2 q (by simp [hq]) u hu
      refine ⟨k1, fun d hd v hv => ?_⟩
      have sm : Same z ops (τ.app fr) fr := same_put fun s hs => ((h2 (i, []) (by simp) x hx).1 s (by rw [← hslot]; exact hs)).1
      rw [sm.ev v hv]
      exact k2 d hd v hv
    have hX : isRead x.op = true → sortOf esc y = 2 → Firm esc ops rc pre y (τ.app fr) i := fun hr hs =>
      { mem := F.again hs hr
        spec := ⟨x, hx, F.right, fun q hq z hz => ⟨fun s hs' => ⟨(hah q hq z hz).read hr s hs', fun e => (hah q hq z hz).dst s e hs'⟩, fun d hd u hu => by
          have sm : Same x ops (τ.app fr) fr := same_put fun s hs => F.own hr s (by rw [← hslot]; exact hs)
          rw [sm.ev u hu]
          exact (hn q (by simp [hq]) z hz d hd).ev u⟩⟩ }
    have sy : guardOf ops (τ.app fr) y = guardOf ops fr y := (show Same y ops (τ.app fr) fr from same_put fun s hs => F.left s (by rw [← hslot]; exact hs)).guard
    -- the rest
    have step : ∀ Rs' : List Nat, (∀ r ∈ Rs, r ∈ Rs') → (∀ r ∈ Rs', Firm esc ops rc pre y (τ.app fr) r) → (isRead x.op = true → sortOf esc y = 2 → i ∈ Rs') →
        opW P esc ops y fr h fun f h' => runD P esc ops ((i, []) :: (pre ++ post)) f h' K ∧ (guardOf ops fr y ≠ some (some false) → ∀ r ∈ Rs, AgainOk P esc ops f h' r) := by
      intro Rs' hsub hfirm hin
      have ih := front hy pre (τ.app fr) h Rs' (fun q hq => hp q (by simp [hq])) hpp.2 hn1 hny1 hfirm hK
      have ih := opW_frame (fun s hs => F.left s (by rw [← hslot]; exact hs)) (fun s hs => F.dst s (by rw [← hslot]; exact hs)) (fun d hd u hu => (hbeg d hd).ev u) ih
      rw [sy] at ih
      refine opW_mono ih fun f h' I k => ⟨?_, fun hgy r hr => ?_⟩
      · -- x, behind y
        have sm : Same x ops fr f := fun t ht => (I.tm t (fun e => F.right t e ht)).symm
        have key : ∃ σ, Does P esc ops x f h' σ ∧ σ.app f = τ.app f := by
          by_cases hrd : isRead x.op = true ∧ sortOf esc y = 2 ∧ guardOf ops fr y ≠ some (some false)
          · obtain ⟨g, d, hg, hd, hq⟩ := (AgainOk_iff hx).1 (k.2 hrd.2.2 i (hin hrd.1 hrd.2.1))
            obtain ⟨g0, hg0, ⟨h0, v, ⟨hv1, hv2⟩, hτ⟩ | ⟨h0, _⟩⟩ := D
            · subst hτ
              have own : Same x ops ((Tr.put x.dst v).app f) f := same_put fun s hs => F.own hrd.1 s hs
              have hg' : guardOf ops f x = some g := by rw [← own.guard]; exact hg
              have hgg : g0 = g := by rw [sm.guard, hg'] at hg0; exact (Option.some.inj hg0).symm
              subst hgg
              have hq' : quietQ P esc ((Tr.put x.dst v).app f) h' x = quietQ P esc f h' x := quietQ_congr own (hh := fun _ => rfl) fun m t u e => by
                rw [own.ev u (load_op e).2]
                exact load_frame (τ := .put x.dst v) fun _ hb => hb.elim
              rw [hq'] at hq
              refine ⟨.put x.dst (((Tr.put x.dst v).app f).tm.getD d .undef), ⟨g0, hg', .inl ⟨h0, _, ⟨by rw [← quietOps_congr sm]; exact hv1, hq⟩, rfl⟩⟩, ?_⟩
              rw [hd]
              simp only [Tr.app]
              by_cases hl : d < f.tm.length
              · have e : (f.put (some d) v).tm.getD d .undef = v := by simp [Fr.put, List.getD, hl]
                rw [e]
              · have hl' : f.tm.length ≤ d := Nat.le_of_not_lt hl
                rw [put_long hl', put_long hl']
            · rw [read_quiet hrd.1 F.quiet] at h0; cases h0
          · have quietly : isRead x.op = true → sortOf esc y ≠ 2 ∨ guardOf ops fr y = some (some false) := fun hr1 => by
              by_cases c : sortOf esc y = 2
              · by_cases c2 : guardOf ops fr y = some (some false)
                · exact .inr c2
                · exact (hrd ⟨hr1, c, c2⟩).elim
              · exact .inl c
            refine ⟨τ, D.congr sm (fun m t u e => ?_) (fun hrd1 => (I.heap (quietly hrd1)).symm), rfl⟩
            obtain ⟨l1, l2⟩ := load_op e
            have hs := quietly l1
            rw [I.heap hs]
            have hm : ∀ d, Begins esc y d → ¬ men d (fr.ev u).strip := fun d hd => men_strip ((hny d hd).ev u)
            generalize (fr.ev u).strip = w at hm
            cases w <;> try rfl
            rename_i d off
            simp only [loadQ]
            rw [I.var hs d (fun hb => hm d hb rfl)]
        obtain ⟨σ, D', e⟩ := key
        simp only [runD, hx, againsG]
        rw [opW_iff F.quiet]
        exact ⟨σ, D', by rw [e]; exact k.1⟩
      · -- what was read, behind y, ahead of x
        obtain ⟨hm, z, hz, h1, h2⟩ := hR r hr
        obtain ⟨k1, k2⟩ := h2 (i, []) (by simp) x hx
        obtain ⟨g, d, hg, hd, hq⟩ := (AgainOk_iff hz).1 (k.2 hgy r (hsub r hr))
        have sz : Same z ops (τ.app f) f := same_put fun s hs => (k1 s (by rw [← hslot]; exact hs)).1
        refine (AgainOk_iff hz).2 ⟨g, d, by rw [← sz.guard]; exact hg, hd, ?_⟩
        have e1 : (τ.app f).tm.getD d .undef = f.tm.getD d .undef := Tr.tm fun e => (k1 d (by rw [← hslot]; exact e)).2 hd
        have e2 : quietQ P esc (τ.app f) h' z = quietQ P esc f h' z := quietQ_congr sz (hh := fun _ => rfl) fun m t u e => by
          have hu := (load_op e).2
          rw [sz.ev u hu]
          refine load_frame fun d' hb => men_strip ?_
          have e3 : f.ev u = fr.ev u := by
            have : Same z ops f fr := fun t ht => I.tm t (fun e => h1 t e ht)
            exact this.ev u hu
          rw [e3]
          exact k2 d' (D.begs hb) u hu
        rw [← e1, ← e2]
        exact hq
    by_cases hc : isRead x.op = true ∧ sortOf esc y = 2
    · exact step (i :: Rs) (fun r hr => by simp [hr]) (fun r hr => by
        rcases List.mem_cons.1 hr with rfl | hr
        · exact hX hc.1 hc.2
        · exact hRs r hr) (fun _ _ => by simp)
    · exact step Rs (fun r hr => hr) hRs (fun h1 h2 => (hc ⟨h1, h2⟩).elim)
/-! Something new may be made at any time. -/

def Room (h : Heap) : Prop := ∃ n, ∀ l, n ≤ l → h l = none

theorem Room.upd {h : Heap} (r : Room h) (l : Nat) (o : Ob) : Room (h.upd l o) := by
  obtain ⟨n, hn⟩ := r
  refine ⟨max n (l + 1), fun k hk => ?_⟩
  simp only [Heap.upd]
  rw [if_neg (by omega)]
  exact hn k (by omega)

theorem Room.some {h : Heap} (r : Room h) : ∃ l, h l = none := by
  obtain ⟨n, hn⟩ := r
  exact ⟨n, hn n (Nat.le_refl _)⟩

def newC (P : Program) (y : Oper) (fr : Fr) : Option (List V × Prop × (Nat → V)) :=
  match y.op with
  | .alloc t => (zeroV P t).map fun cs => (cs, True, fun l => .ptr l 0)
  | .box t x => match okT P t with
    | true => (cellsQ (P.cellsOf t) (fr.ev x).strip).map fun p => (p.1, optNeeds none [fr.ev x] True ∧ p.2, fun l => .ptr l 0)
    | false => none
  | .buildSlice t n ps => match buildSliceQ P t n (ps.toList.map fun e => (e.1, (fr.ev e.2).strip)) with
    | .chk c (.sl es l _) => some (l.flatten, optNeeds none (y.op.operands.toList.map fr.ev) True ∧ c, fun k => .sref es k 0 l.length l.length)
    | _ => none
  | _ => none

theorem new_iff {y : Oper} (hn : isNew y = true) (hs : sortOf esc y = 2) {fr : Fr} {h : Heap} {K : Fr → Heap → Prop} :
    opW P esc ops y fr h K ↔ ∃ cs c tell, newC P y fr = some (cs, c, tell) ∧ c ∧ ∀ l, h l = none → K (fr.put y.dst (tell l)) (h.upd l (.cells cs)) := by
  obtain ⟨dst, op, type, pos, after, guard⟩ := y
  cases guard with
  | some g => cases op <;> simp [isNew] at hn
  | none =>
    unfold opW
    simp only [guardOf]
    rw [hs]
    simp only
    cases op <;> simp only [isNew] at hn <;> try cases hn
    · rename_i t
      simp only [effW, newC, Op.operands, optNeeds, List.map_nil]
      cases hz : zeroV P t with
      | none => simp [optNeeds]
      | some cs =>
        simp only [Option.map_some, Option.some.injEq, Prod.mk.injEq, Array.toList_empty, List.map_nil, optNeeds]
        constructor
        · exact fun h => ⟨cs, True, _, ⟨rfl, rfl, rfl⟩, trivial, h⟩
        · rintro ⟨_, _, _, ⟨rfl, rfl, rfl⟩, _, h⟩
          exact h
    · rename_i t x
      simp only [effW, newC, Op.operands, List.map_cons, List.map_nil]
      rw [optNeeds_iff]
      cases okT P t with
      | false => simp
      | true =>
        cases hc : cellsQ (P.cellsOf t) (fr.ev x).strip with
        | none => simp
        | some p =>
          obtain ⟨cs, c⟩ := p
          simp only [Option.map_some, Option.some.injEq, Prod.mk.injEq]
          constructor
          · rintro ⟨h1, h2, h3⟩
            exact ⟨cs, _, _, ⟨rfl, rfl, rfl⟩, ⟨(optNeeds_iff _ _ _).2 ⟨h1, trivial⟩, h2⟩, h3⟩
          · rintro ⟨_, _, _, ⟨rfl, rfl, rfl⟩, ⟨h1, h2⟩, h3⟩
            exact ⟨((optNeeds_iff _ _ _).1 h1).1, h2, h3⟩
    · rename_i t n ps
      simp only [effW, newC]
      rw [optNeeds_iff]
      cases hq : buildSliceQ P t n (ps.toList.map fun e => (e.1, (fr.ev e.2).strip)) with
      | ok v => simp
      | bad => simp
      | chk c v =>
        cases v with
        | sl es l g =>
          simp only [Option.some.injEq, Prod.mk.injEq]
          constructor
          · rintro ⟨h1, h2, h3⟩
            exact ⟨_, _, _, ⟨rfl, rfl, rfl⟩, ⟨(optNeeds_iff _ _ _).2 ⟨h1, trivial⟩, h2⟩, h3⟩
          · rintro ⟨_, _, _, ⟨rfl, rfl, rfl⟩, ⟨h1, h2⟩, h3⟩
            exact ⟨((optNeeds_iff _ _ _).1 h1).1, h2, h3⟩
        | _ => simp

theorem newC_congr {y : Oper} {fr fr' : Fr} (s : Same y ops fr fr') : newC P y fr = newC P y fr' := by
  have hev := s.ev
  unfold newC
  cases e : y.op <;> try rfl
  · rename_i t x
    have := hev x (by rw [e]; simp [Op.operands])
    simp only [this]
  · rename_i t n ps
    have h1 : (ps.toList.map fun e => (e.1, (fr.ev e.2).strip)) = ps.toList.map fun e => (e.1, (fr'.ev e.2).strip) := by
      apply List.map_congr_left
      intro q hq
      rw [hev q.2 (by rw [e]; simp [Op.operands]; exact ⟨q.1, by simpa using hq⟩)]
    have h2 : ((Op.buildSlice t n ps).operands.toList.map fr.ev) = (Op.buildSlice t n ps).operands.toList.map fr'.ev := by
      apply List.map_congr_left
      intro q hq
      exact hev q (by rw [e]; exact hq)
    simp only [h1, h2]

theorem newC_men {y : Oper} {fr : Fr} {cs : List V} {c : Prop} {tell : Nat → V} (h : newC P y fr = some (cs, c, tell)) (d l : Nat) : ¬ men d (tell l) := by
  unfold newC at h
  split at h
  · obtain ⟨_, _, e⟩ := Option.map_eq_some_iff.1 h; cases e; exact fun f => f
  · split at h
    · obtain ⟨_, _, e⟩ := Option.map_eq_some_iff.1 h; cases e; exact fun f => f
    · cases h
  · split at h
    · cases h; exact fun f => f
    · cases h
  · cases h

theorem cellsAt_upd {h : Heap} {l k : Nat} {o : Ob} (hne : k ≠ l) : cellsAt (h.upd l o) k = cellsAt h k := by
  simp [cellsAt, Heap.upd, hne]

theorem rd_new {m : Nat} {t : TypeId} {cs : List V} {off : Nat} {v : V} (hq : quietRes (rdQ P m t [] off) none v) : quietRes (rdQ P m t cs off) none v := by
  revert hq
  unfold rdQ
  cases okT P t <;> cases (P.underlying t).isSome <;> cases aggT P t <;> simp only <;> intro hq <;> try exact hq
  · obtain ⟨c', v', e, hc'⟩ := shV_same P m t (off < [].length) (([] : List V).getD off .undef)
    rw [e] at hq
    have := (hc' hq.1).1
    simp at this
  · obtain ⟨h1, h2⟩ := hq
    have h1 : off + P.cellsOf t ≤ 0 := h1
    refine ⟨by omega, ?_⟩
    rw [h2]
    have e1 : P.cellsOf t = 0 := by omega
    rw [e1]
    simp

theorem read_new {x : Oper} {fr : Fr} {h : Heap} {l : Nat} {o : Ob} {v : V} (hr : isRead x.op = true) (hl : h l = none) (hq : quietRes (quietQ P esc fr h x) none v) : quietRes (quietQ P esc fr (h.upd l o) x) none v := by
  have hc : cellsAt h l = [] := by simp [cellsAt, hl]
  unfold quietQ at *
  split at hq
  · exact hq
  · exact hq
  · rename_i n1 n2
    clear n1 n2
    generalize hop : x.op = op at *
    cases op <;> simp only [isRead] at hr <;> try cases hr
    · rename_i t a
      simp only [qop] at hq ⊢
      generalize (fr.ev a).strip = u at *
      cases u <;> simp only [loadQ] at hq ⊢ <;> try exact hq
      rename_i k off
      by_cases hk : k = l
      · subst hk
        rw [hc] at hq
        exact rd_new hq
      · rw [cellsAt_upd hk]; exact hq
    · rename_i s d a
      simp only [qop] at hq ⊢
      generalize (fr.ev a).strip = u at *
      unfold convQ at *
      split at hq
      · exact hq
      · exact hq
      · rename_i e es k off n cap h1 h2
        split at hq
        · rename_i hz
          by_cases hk : k = l
          · subst hk
            rw [hc] at hq
            obtain ⟨⟨g1, g2⟩, g3⟩ := hq
            have : n = 0 := by simp at g1; omega
            subst this
            exact ⟨⟨.inl rfl, rfl⟩, g3⟩
          · rw [cellsAt_upd hk]; exact hq
        · exact hq
      · exact hq
      · exact hq
    · rename_i t a i b
      simp only [qop] at hq ⊢
      generalize (fr.ev a).strip = u at *
      generalize (fr.ev i).strip = j at *
      have : ∀ es, mapAt h u = some es → mapAt (h.upd l o) u = some es := by
        intro es he
        cases u <;> simp only [mapAt] at he ⊢ <;> try exact he
        rename_i r
        cases r with
        | none => exact he
        | some r =>
          simp only at he ⊢
          have : r ≠ l := by rintro rfl; rw [hl] at he; cases he
          simp only [Heap.upd, this, if_false]
          exact he
      unfold lookupQ at *
      split at hq
      · split at hq
        · rename_i es hk hm
          rw [hk, this es hm]
          exact hq
        · exact hq.elim
      · exact hq

theorem Does.new {x : Oper} {fr f : Fr} {h : Heap} {l : Nat} {o : Ob} {τ : Tr} (D : Does P esc ops x fr h τ) (hg : isRead x.op = true → x.guard = none) (s : Same x ops fr f) (hv : ∀ d, f.var d = fr.var d) (hl : h l = none) :
    Does P esc ops x f (h.upd l o) τ := by
  by_cases hr : isRead x.op = true
  · obtain ⟨g, h1, h2⟩ := D
    have hgn : guardOf ops fr x = some none := by unfold guardOf; rw [hg hr]
    have : g = none := by rw [hgn] at h1; exact (Option.some.inj h1).symm
    subst this
    refine ⟨none, by rw [← s.guard]; exact h1, ?_⟩
    rcases h2 with ⟨h0, v, ⟨k1, k2⟩, k3⟩ | ⟨h0, g1, d, cs, c, k2, k3, k4, k5⟩
    · refine .inl ⟨h0, v, ⟨by rw [← quietOps_congr s]; exact k1, ?_⟩, k3⟩
      have e := quietQ_congr (P := P) (esc := esc) (h := h.upd l o) (h' := h.upd l o) s (fun m t u e => by
        have hu : u ∈ x.op.operands.toList := by rw [e]; simp [Op.operands]
        generalize (fr.ev u).strip = w
        cases w <;> try rfl
        simp only [loadQ, hv]) (fun _ => rfl)
      rw [← e]
      exact read_new hr hl k2
    · exact .inr ⟨h0, g1, d, cs, c, k2, by rw [← k3]; exact ownVar_congr fun y hy => by rw [s.ev y hy], by rw [← s.mapEv]; exact k4, k5⟩
  · exact D.congr s (fun m t u e => (hr (load_op e).1).elim) (fun c => (hr c).elim)

structure FreeNew (esc : List Nat) (ops : List Oper) (y : Oper) (rc : List Nat) (x : Oper) : Prop where
  quiet : (sortOf esc x ≠ 2 ∧ rc = []) ∨ (isNew x = true ∧ sortOf esc x = 2 ∧ rc = []) ∨
    isCall x = true ∧ isAlloc y = true ∧ ∀ r ∈ rc, ∃ z, ops[r]? = some z ∧ isRead z.op = true ∧ z.guard = none ∧ (∀ s, y.dst = some s → s ∉ z.looksAt ops.toArray) ∧ ∀ s, z.dst = some s → y.dst ≠ some s
  left : ∀ s, x.dst = some s → s ∉ y.looksAt ops.toArray
  right : ∀ s, y.dst = some s → s ∉ x.looksAt ops.toArray
  dst : ∀ s, x.dst = some s → y.dst ≠ some s
  read : isRead x.op = true → x.guard = none

/-! What a call does not see stays. -/
theorem hr_less {S : Sim} {w : World} {h : Heap} {l : Nat} {o : Ob} (hl : h l = none) (H : HR S w (h.upd l o)) : HR S w h :=
  ⟨fun k ob hk => H.obs k ob (by
    have : k ≠ l := by rintro rfl; rw [hl] at hk; cases hk
    simp only [Heap.upd, this, if_false]; exact hk), H.fresh⟩

theorem hr_room {S : Sim} {w : World} {h : Heap} (H : HR S w h) : Room h := by
  refine ⟨w.heap.size, fun l hl => ?_⟩
  cases hh : h l with
  | none => rfl
  | some o =>
    have hob := H.obs l o hh
    have hfr := H.fresh l hl
    cases o with
    | cells cs => have := hob.1; rw [hfr.1] at this; cases this
    | grow es n => have := hob.1; rw [hfr.2] at this; cases this
    | obj q => have := hob.1; rw [hfr.1] at this; cases this

def More (l : Nat) (cs : List V) (K : V → Heap → Prop) (r : V) (h'' : Heap) : Prop := ∃ h', h'' = h'.upd l (.cells cs) ∧ h' l = none ∧ Room h' ∧ K r h'

theorem le_more {S S' : Sim} {w w' : World} {h h' : Heap} {l : Nat} {cs : List V} (hl : h l = none) (H0 : HR S w (h.upd l (.cells cs))) (H' : HR S' w' h') (L : Le (fun _ => False) h S w h' S' w') :
    h' l = none ∧ HR S' w' (h'.upd l (.cells cs)) ∧ Le (fun _ => False) (h.upd l (.cells cs)) S w (h'.upd l (.cells cs)) S' w' := by
  have hob : CellsRel S w l cs := H0.obs l (.cells cs) (by simp [Heap.upd])
  obtain ⟨ho, xs, ⟨e, fz, hb, hf⟩, hr, h1⟩ := hob
  have hlt : l < w.heap.size := (Array.getElem?_eq_some_iff.1 hb).1
  have hnb : ¬ Blk h l := fun ⟨o, h1, _⟩ => by rw [hl] at h1; cases h1
  obtain ⟨g1, g2⟩ := L.priv l ho (fun f => f) hnb
  have hn := L.all l hlt hl
  refine ⟨hn, ⟨fun k o hk => ?_, H'.fresh⟩, { toExt := L.toExt, os := L.os, tape := L.tape, output := L.output, size := L.size, un := L.un, stays := L.stays, priv := fun rb e hL hh => ?_, dom := fun k hk ⟨o, h1, h2⟩ => ?_, all := fun k hk e => ?_ }⟩
  · simp only [Heap.upd] at hk
    split at hk
    · rename_i e'; subst e'; cases hk
      exact ⟨g2, xs, ⟨e, fz, by rw [g1]; exact hb, hf⟩, hr.mono L.toExt, h1⟩
    · exact H'.obs k o hk
  · refine L.priv rb e hL fun ⟨o, h1, h2⟩ => hh ⟨o, ?_, h2⟩
    have : rb ≠ l := by rintro rfl; rw [hl] at h1; cases h1
    simp only [Heap.upd, this, if_false]; exact h1
  · simp only [Heap.upd] at h1
    split at h1
    · rename_i e'; subst e'; cases h1; exact ⟨.cells cs, by simp [Heap.upd], rfl⟩
    · rename_i e'
      obtain ⟨o', h3, h4⟩ := L.dom k hk ⟨o, h1, h2⟩
      exact ⟨o', by simp only [Heap.upd, e', if_false]; exact h3, h4⟩
  · simp only [Heap.upd] at e ⊢
    split at e
    · cases e
    · rename_i e'; rw [if_neg e']; exact L.all k hk e

theorem AnyW.more {f : FuncId} {args : List V} {h : Heap} {K : V → Heap → Prop} {l : Nat} {cs : List V} (hl : h l = none) (c : AnyW P f args h K) : AnyW P f args (h.upd l (.cells cs)) (More l cs K) := by
  unfold AnyW at *
  split at c
  · intro S w xs H R
    refine (c S w xs (hr_less hl H) R).mono ?_
    rintro e w' ⟨r, x, h', S', he, k, H', R', L⟩
    obtain ⟨a1, a2, a3⟩ := le_more hl H H' L
    exact ⟨r, x, _, S', he, ⟨h', rfl, a1, hr_room H', k⟩, a2, R', a3⟩
  · intro S w xs H R
    obtain ⟨r, x, w', h', S', he, k, H', R', L⟩ := c S w xs (hr_less hl H) R
    obtain ⟨a1, a2, a3⟩ := le_more hl H H' L
    exact ⟨r, x, w', _, S', he, ⟨h', rfl, a1, hr_room H', k⟩, a2, R', a3⟩

theorem YieldW.more {f : Nat} {args : List V} {h : Heap} {K : V → Heap → Prop} {l : Nat} {cs : List V} (hl : h l = none) (c : YieldW P f args h K) : YieldW P f args (h.upd l (.cells cs)) (More l cs K) := by
  intro S w xs H R
  obtain ⟨g, tmps, asg, body, h1, h2⟩ := c S w xs (hr_less hl H) R
  refine ⟨g, tmps, asg, body, h1, h2.mono ?_⟩
  rintro e w' ⟨r, x, h', S', he, k, H', R', L⟩
  obtain ⟨a1, a2, a3⟩ := le_more hl H H' L
  exact ⟨r, x, _, S', he, ⟨h', rfl, a1, hr_room H', k⟩, a2, R', a3⟩

theorem shV_clean (m : Nat) (t : TypeId) (c : Prop) (v : V) (d : Nat) : Clean d (shV P m t c v) := by
  unfold shV
  split <;> first
    | exact fun f => f
    | exact deLp_men d v
    | (split <;> first | exact fun f => f | exact deLp_men d v)

theorem shape1_clean {mt : Nat} {t : TypeId} {r : V} {K : V → Prop} (h : shape1 P mt t r K) : shape1 P mt t r fun v => (∀ d, ¬ men d v) ∧ K v := by
  unfold shape1 at *
  split at h
  · unfold ptrK at *
    split at h
    · exact ⟨fun _ f => f, h⟩
    · exact ⟨fun _ f => f, h⟩
    · exact h
  · exact ⟨h.1, fun _ f => f, h.2⟩
  · exact ⟨h.1, fun d => deLp_men d r, h.2⟩
  · exact ⟨h.1, fun d => deLp_men d r, h.2⟩
  · have hc := fun d => shV_clean (P := P) 0 t True r d
    generalize shV P 0 t True r = q at *
    cases q with
    | ok v => exact ⟨hc, h⟩
    | chk c v => exact ⟨h.1, hc, h.2⟩
    | bad => exact h

theorem shapeW_clean {mt : Nat} {t : TypeId} {r : V} {K : V → Prop} (h : shapeW P mt t r K) : shapeW P mt t r fun v => (∀ d, ¬ men d v) ∧ K v := by
  unfold shapeW at *
  split at h
  · exact ⟨h.1, shapes_mono h.2 fun vs k => ⟨fun _ f => f, k⟩⟩
  · exact shape1_clean h

theorem yes_clean {t : TypeId} {b : Bool} {v : V} (h : ∀ d, ¬ men d v) (d : Nat) : ¬ men d (yesV P t b v) := by
  unfold yesV
  split <;> exact h d

theorem call_more {x : Oper} (hx : isCall x = true) (hs : sortOf esc x = 2) {fr : Fr} {h : Heap} {K : Fr → Heap → Prop} {l : Nat} {cs : List V} (hl : h l = none) {d : Option Tmp} {u : V} (s : Same x ops fr (fr.put d u)) (hd : ∀ a, x.dst = some a → d ≠ some a)
    (hroom : Room h) (hK : opW P esc ops x fr h K) :
    opW P esc ops x (fr.put d u) (h.upd l (.cells cs)) fun f h'' => ∃ f0 h' v, f = f0.put d u ∧ h'' = h'.upd l (.cells cs) ∧ h' l = none ∧ Room h' ∧ f0 = fr.put x.dst v ∧ (∀ e, ¬ men e v) ∧ K f0 h' := by
  have hcomm : ∀ v, (fr.put d u).put x.dst v = (fr.put x.dst v).put d u := fun v => Tr.comm (τ := .put d u) (σ := .put x.dst v) (fun a ha e => hd a e ha) fr |>.symm
  unfold opW at *
  rw [← s.guard]
  cases hg : guardOf ops fr x with
  | none => rw [hg] at hK; exact hK
  | some g =>
    rw [hg] at hK
    rw [hs] at hK ⊢
    simp only at hK ⊢
    have go : ∀ (m0 : V → V), (∀ v, (∀ e, ¬ men e v) → ∀ e, ¬ men e (m0 v)) →
        optNeeds none (x.op.operands.toList.map fr.ev) (effW P (dstMode x esc) x.op x.type (fun y => (fr.ev y).strip) fr h fun v fr' h' => K (fr'.put x.dst (m0 v)) h') →
        optNeeds none (x.op.operands.toList.map (fr.put d u).ev) (effW P (dstMode x esc) x.op x.type (fun y => ((fr.put d u).ev y).strip) (fr.put d u) (h.upd l (.cells cs)) fun v fr' h'' =>
          ∃ f0 h' v', fr'.put x.dst (m0 v) = f0.put d u ∧ h'' = h'.upd l (.cells cs) ∧ h' l = none ∧ Room h' ∧ f0 = fr.put x.dst v' ∧ (∀ e, ¬ men e v') ∧ K f0 h') := by
      intro m0 hm0 hk
      rw [← s.mapEv]
      rw [optNeeds_iff] at hk ⊢
      refine ⟨hk.1, ?_⟩
      have hk := hk.2
      have hev : ∀ y ∈ x.op.operands.toList, ((fr.put d u).ev y).strip = (fr.ev y).strip := fun y hy => by rw [s.ev y hy]
      obtain ⟨c, f, ho, hf⟩ : ∃ c f, x.op = .call c ∧ c.callee = .value f := by
        unfold isCall at hx
        split at hx
        · rename_i c hc
          split at hx
          · rename_i f hf; exact ⟨c, f, hc, hf⟩
          · cases hx
        · cases hx
      obtain ⟨callee, args, ts⟩ := c
      simp only at hf
      subst hf
      rw [ho] at hk hev ⊢
      have hx : ∀ z ∈ args.toList, ((fr.put d u).ev z).strip = (fr.ev z).strip := fun z hz => hev z (by simp [Op.operands, Call.operands]; exact .inr (by simpa using hz))
      simp only [effW] at hk ⊢
      rw [hev f (by simp [Op.operands, Call.operands]), argsV_congr (P := P) ts.toList args.toList hx]
      have fin : ∀ (r : V) (h' : Heap), More l cs (fun r h' => shapeW P (dstMode x esc) x.type r fun v => K (fr.put x.dst (m0 v)) h') r h' →
          shapeW P (dstMode x esc) x.type r fun v => ∃ f0 h'' v', (fr.put d u).put x.dst (m0 v) = f0.put d u ∧ h' = h''.upd l (.cells cs) ∧ h'' l = none ∧ Room h'' ∧ f0 = fr.put x.dst v' ∧ (∀ e, ¬ men e v') ∧ K f0 h'' := by
        rintro r h' ⟨h'', rfl, hn, hr, k⟩
        exact shapeW_mono (shapeW_clean k) fun v ⟨hv, k⟩ => ⟨_, h'', m0 v, hcomm _, rfl, hn, hr, rfl, hm0 v hv, k⟩
      split at hk
      · split at hk
        · exact AnyW.mono (AnyW.more hl hk) fin
        · exact hk
      · split at hk
        · exact YieldW.mono (YieldW.more hl hk) fin
        · exact hk
      · exact hk
    cases g with
    | none => exact go (fun v => v) (fun v h => h) hK
    | some b =>
      cases b with
      | true => exact go (yesV P x.type true) (fun v h => yes_clean h) hK
      | false => exact ⟨fr.put x.dst (noV P x.type false), h, noV P x.type false, hcomm _, rfl, hl, hroom, rfl, fun e => by unfold noV; split <;> exact fun f => f, hK⟩

theorem new_tm {fr : Fr} {dst : Option Tmp} {v : V} {d : Nat} : (fr.put dst v).var d = fr.var d := by cases dst <;> rfl

theorem again_new {r : Nat} {z : Oper} (hz : ops[r]? = some z) (hr : isRead z.op = true) (hg : z.guard = none) {d : Option Tmp} {u : V} (h1 : ∀ s, d = some s → s ∉ z.looksAt ops.toArray) (h2 : ∀ s, z.dst = some s → d ≠ some s)
    {f : Fr} {h : Heap} {l : Nat} {o : Ob} (hl : h l = none) (ha : AgainOk P esc ops f h r) : AgainOk P esc ops (f.put d u) (h.upd l o) r := by
  obtain ⟨g, dd, g1, g2, g3⟩ := (AgainOk_iff hz).1 ha
  have hgn : guardOf ops f z = some none := by unfold guardOf; rw [hg]
  have : g = none := by rw [hgn] at g1; exact (Option.some.inj g1).symm
  subst this
  have s : Same z ops f (f.put d u) := fun t ht => (put_getD (fun e => h1 t e ht)).symm
  refine (AgainOk_iff hz).2 ⟨none, dd, by rw [← s.guard]; exact g1, g2, ?_⟩
  rw [put_getD (h2 dd g2)]
  have e := quietQ_congr (P := P) (esc := esc) (h := h.upd l o) (h' := h.upd l o) s (fun m t x e => by
    generalize (f.ev x).strip = w
    cases w <;> try rfl
    simp only [loadQ, new_tm]) (fun _ => rfl)
  rw [← e]
  exact read_new hr hl g3

theorem front_new {j : Nat} {y : Oper} (hy : ops[j]? = some y) (hnew : isNew y = true) (hs : sortOf esc y = 2) (hz : zerosOk P ops = true) {post : List (Nat × List Nat)} {K : Fr → Heap → Prop} :
    ∀ (pre : List (Nat × List Nat)) (fr : Fr) (h : Heap), Room h →
      (∀ p ∈ pre, ∃ x, ops[p.1]? = some x ∧ FreeNew esc ops y p.2 x) →
      (∀ p ∈ pre, ∀ x, ops[p.1]? = some x → ∀ d, Begins esc x d → NoLp d fr) →
      pre.Pairwise (fun p q => ∀ x z, ops[p.1]? = some x → ops[q.1]? = some z → Ahead esc ops x z) →
      runD P esc ops (pre ++ (j, []) :: post) fr h K → opW P esc ops y fr h fun f h' => runD P esc ops (pre ++ post) f h' K
  | [], fr, h, _, _, _, _, hK => by
    simp only [List.nil_append, runD, hy, againsG] at hK ⊢
    exact hK
  | p :: pre, fr, h, hroom, hp, hn, hpp, hK => by
    obtain ⟨x, hx, F⟩ := hp p (by simp)
    obtain ⟨i, rci⟩ := p
    simp only at hx F
    rw [List.pairwise_cons] at hpp
    simp only [List.cons_append, runD, hx] at hK ⊢
    rcases F.quiet with ⟨hq, rfl⟩ | ⟨hxn, hxs, rfl⟩ | ⟨hxc, hya, hrc⟩
    · simp only [againsG] at hK ⊢
      rw [opW_iff hq] at hK
      obtain ⟨τ, D, hK⟩ := hK
      have hslot := D.slot
      have ih := front_new hy hnew hs hz pre (τ.app fr) h hroom (fun q hq => hp q (by simp [hq])) (fun q hq z hz d hd =>
        D.noLp (hn q (by simp [hq]) z hz d hd) (fun hb => (hpp.1 q hq x z hx hz).dst d hb.2 hd.2)) hpp.2 hK
      have ih := opW_frame (fun s hs => F.left s (by rw [← hslot]; exact hs)) (fun s hs => F.dst s (by rw [← hslot]; exact hs)) (fun d hd u hu => (hn (i, []) (by simp) x hx d (D.begs hd)).ev u) ih
      rw [new_iff hnew hs] at ih ⊢
      obtain ⟨cs, c, tell, h1, h2, h3⟩ := ih
      refine ⟨cs, c, tell, h1, h2, fun l hl => ?_⟩
      rw [opW_iff hq]
      refine ⟨τ, D.new F.read (fun t ht => (put_getD (fun e => F.right t e ht)).symm) (fun d => new_tm) hl, h3 l hl⟩
    · simp only [againsG] at hK ⊢
      rw [new_iff hxn hxs] at hK
      obtain ⟨cs, c, tell, h1, h2, h3⟩ := hK
      have step : ∀ l, h l = none → ∃ cs2 c2 tell2, newC P y fr = some (cs2, c2, tell2) ∧ c2 ∧ ∀ l2, (h.upd l (.cells cs)) l2 = none → runD P esc ops (pre ++ post) ((fr.put x.dst (tell l)).put y.dst (tell2 l2)) ((h.upd l (.cells cs)).upd l2 (.cells cs2)) K := by
        intro l hl
        have ih := front_new hy hnew hs hz pre (fr.put x.dst (tell l)) (h.upd l (.cells cs)) (hroom.upd _ _) (fun q hq => hp q (by simp [hq])) (fun q hq z hz d hd =>
          (hn q (by simp [hq]) z hz d hd).put _ (newC_men h1 d l)) hpp.2 (h3 l hl)
        rw [new_iff hnew hs] at ih
        obtain ⟨cs2, c2, tell2, g1, g2, g3⟩ := ih
        exact ⟨cs2, c2, tell2, by rw [newC_congr (ops := ops) (fr' := fr.put x.dst (tell l)) (fun t ht => (put_getD (fun e => F.left t e ht)).symm)]; exact g1, g2, g3⟩
      rw [new_iff hnew hs]
      obtain ⟨l0, hl0⟩ := hroom.some
      obtain ⟨cs2, c2, tell2, g1, g2, _⟩ := step l0 hl0
      refine ⟨cs2, c2, tell2, g1, g2, fun l2 hl2 => ?_⟩
      rw [new_iff hxn hxs]
      refine ⟨cs, c, tell, by rw [← h1]; exact newC_congr (ops := ops) (fun t ht => put_getD (fun e => F.right t e ht)), h2, fun l hl => ?_⟩
      have hne : l ≠ l2 := by
        rintro rfl
        simp [Heap.upd] at hl
      have hl' : h l = none := by simpa [Heap.upd, hne] using hl
      obtain ⟨cs3, c3, tell3, k1, _, k3⟩ := step l hl'
      rw [g1] at k1
      cases k1
      have := k3 l2 (by simpa [Heap.upd, hne.symm] using hl2)
      have e1 : (fr.put x.dst (tell l)).put y.dst (tell2 l2) = (fr.put y.dst (tell2 l2)).put x.dst (tell l) :=
        Tr.comm (τ := .put y.dst (tell2 l2)) (σ := .put x.dst (tell l)) (fun d hd e => F.dst d e hd) fr
      have e2 : (h.upd l (.cells cs)).upd l2 (.cells cs2) = (h.upd l2 (.cells cs2)).upd l (.cells cs) := by
        funext k
        simp only [Heap.upd]
        by_cases hk : k = l2
        · by_cases hk' : k = l
          · omega
          · simp [hk, hne.symm]
        · simp [hk]
      rw [← e1, ← e2]
      exact this
    · -- a call, ahead of a new variable
      have hxs : sortOf esc x = 2 := by
        obtain ⟨dst, op, type, pos, after, guard⟩ := x
        unfold isCall at hxc
        simp only at hxc
        split at hxc
        · rename_i c
          split at hxc
          · rename_i f hf
            obtain ⟨callee, args, ts⟩ := c
            simp only at hf
            subst hf
            rfl
          · cases hxc
        · cases hxc
      obtain ⟨t, hop⟩ : ∃ t, y.op = .alloc t := by
        unfold isAlloc at hya
        split at hya
        · rename_i t h1 _; exact ⟨t, h1⟩
        · cases hya
      have hzt : (zeroV P t).isSome = true := by
        have := List.all_eq_true.1 hz y (List.mem_of_getElem? hy)
        rw [hop] at this
        exact this
      obtain ⟨cs, hcs⟩ := Option.isSome_iff_exists.1 hzt
      have hC : ∀ f : Fr, newC P y f = some (cs, True, fun l => .ptr l 0) := fun f => by simp only [newC, hop, hcs, Option.map_some]
      rw [new_iff hnew hs]
      refine ⟨cs, True, _, hC fr, trivial, fun l hl => ?_⟩
      have hm := call_more (P := P) (ops := ops) (cs := cs) hxc hxs hl (d := y.dst) (u := .ptr l 0) (fun t ht => (put_getD (fun e => F.right t e ht)).symm) (fun a ha e => F.dst a ha e) hroom hK
      refine opW_mono hm ?_
      rintro f h'' - ⟨f0, h', v, rfl, rfl, hn', hr', hf0, hv, k⟩
      rw [againsG_iff] at k ⊢
      have sx : guardOf ops (fr.put y.dst (.ptr l 0)) x = guardOf ops fr x := (show Same x ops (fr.put y.dst (.ptr l 0)) fr from fun t ht => put_getD (fun e => F.right t e ht)).guard
      refine ⟨fun hg r hr => ?_, ?_⟩
      · obtain ⟨z, z1, z2, z3, z4, z5⟩ := hrc r hr
        exact again_new z1 z2 z3 z4 z5 hn' (k.1 (by rw [← sx]; exact hg) r hr)
      have k := k.2
      have ih := front_new hy hnew hs hz pre f0 h' hr' (fun q hq => hp q (by simp [hq])) (fun q hq z hz' d hd => by
        rw [hf0]
        exact (hn q (by simp [hq]) z hz' d hd).put _ (hv d)) hpp.2 k
      rw [new_iff hnew hs] at ih
      obtain ⟨cs2, c2, tell2, g1, _, g3⟩ := ih
      rw [hC] at g1
      cases g1
      exact g3 l hn'
end
end Jb
end

section
/- A region with a draw. -/
namespace Jb
open Go Go.RowKit

section
variable {P : Program} {esc : List Nat} {ops : List Oper} {anc : List (Nat × Nat)}

theorem hasN_iff {l : List Nat} {n : Nat} : hasN l n = true ↔ n ∈ l := by
  unfold hasN
  rw [List.any_eq_true]
  constructor
  · rintro ⟨x, hx, h⟩; rw [Nat.eq_of_beq_eq_true h]; exact hx
  · intro h; exact ⟨n, h, Nat.beq_refl n⟩

theorem nodupN_iff : ∀ {l : List Nat}, nodupN l = true → l.Nodup
  | [], _ => List.nodup_nil
  | a :: l, h => by
    simp only [nodupN, Bool.and_eq_true, Bool.not_eq_true'] at h
    refine List.nodup_cons.2 ⟨fun ha => ?_, nodupN_iff h.2⟩
    have h1 : l.any (Nat.beq a) = true := List.any_eq_true.2 ⟨a, ha, Nat.beq_refl a⟩
    rw [h.1] at h1; cases h1

theorem dstIn_false {o : Oper} {l : List Nat} (h : dstIn o l = false) : ∀ s, o.dst = some s → s ∉ l := by
  intro s hs hm
  unfold dstIn at h
  rw [hs] at h
  simp only at h
  rw [hasN_iff.2 hm] at h; cases h

theorem dstEq_false {x y : Oper} (h : dstEq x y = false) : ∀ s, x.dst = some s → y.dst ≠ some s := by
  intro s hx hy
  unfold dstEq at h
  rw [hx, hy] at h
  simp only at h
  rw [Nat.beq_refl] at h; cases h

theorem nb2 {n : Nat} (h : Nat.beq n 2 = false) : n ≠ 2 := by rintro rfl; cases h

theorem pair_ahead {p q : Nat × List Nat} (h : pairOk ops esc anc p q = true) : ∀ x z, ops[p.1]? = some x → ops[q.1]? = some z → Ahead esc ops x z := by
  intro x z hx hz
  unfold pairOk at h
  rw [hx, hz] at h
  simp only [Bool.and_eq_true, Bool.not_eq_true', Bool.and_eq_false_iff] at h
  obtain ⟨⟨⟨h1, h2⟩, _⟩, _⟩ := h
  exact { dst := dstEq_false h1, read := fun hr => dstIn_false (h2.resolve_left (by rw [hr]; simp)) }

theorem pair_anc {p q : Nat × List Nat} (h : pairOk ops esc anc p q = true) : (lookN anc p.1).testBit q.1 = false := by
  unfold pairOk at h
  split at h
  · simp only [Bool.and_eq_true, Bool.not_eq_true'] at h
    exact h.1.2
  · cases h

theorem pair_free {p q : Nat × List Nat} {x z : Oper} (hx : ops[p.1]? = some x) (hz : ops[q.1]? = some z) (h : pairOk ops esc anc p q = true) (ho : oneOk ops esc anc p = true) (ha : (lookN anc q.1).testBit p.1 = false) :
    ((p.2 = [] ∧ FreeOp esc ops q.2 z p.1 x) ∨ (isNew z = true ∧ sortOf esc z = 2 ∧ q.2 = [])) ∧ (isNew z = true → sortOf esc z = 2 → q.2 = [] → FreeNew esc ops z p.2 x) := by
  have hah := pair_ahead h x z hx hz
  unfold pairOk at h
  unfold oneOk at ho
  rw [hx] at h ho
  rw [hz] at h
  simp only [Bool.and_eq_true, Bool.not_eq_true', Bool.or_eq_true, ha, Bool.false_eq_true, false_or, Bool.and_eq_false_iff] at h ho
  obtain ⟨_, h⟩ := h
  obtain ⟨⟨⟨_, _⟩, g2⟩, g3⟩ := ho
  rcases h with ⟨⟨⟨h1, h2⟩, h3⟩, h4⟩ | ⟨⟨⟨⟨⟨⟨h1, h2⟩, h3⟩, h4⟩, h5⟩, h6⟩, h7⟩
  · have hq := nb2 h1
    have hp2 : p.2 = [] := by
      rw [h1] at g3
      simpa using g3
    refine ⟨.inl ⟨hp2, { quiet := hq, left := dstIn_false h2, right := dstIn_false h3, dst := hah.dst, again := fun hs hr => ?_, own := fun hr => dstIn_false (g2.resolve_left (by rw [hr]; simp)) }⟩,
      fun _ hs he => { quiet := .inl ⟨hq, hp2⟩, left := dstIn_false h2, right := dstIn_false h3, dst := hah.dst, read := fun hr => ?_ }⟩
    · rw [hs, hr] at h4
      simp only [Nat.beq_refl, Bool.true_eq_false, false_or] at h4
      exact hasN_iff.1 h4
    · rw [hs, hr, he] at h4
      simp [hasN] at h4
  · have hz2 : sortOf esc z = 2 := Nat.eq_of_beq_eq_true h3
    have he : q.2 = [] := by simpa using h4
    refine ⟨.inr ⟨h2, hz2, he⟩, fun _ _ _ => { quiet := ?_, left := dstIn_false h5, right := dstIn_false h6, dst := hah.dst, read := fun hr => ?_ }⟩
    · rcases h1 with (h1 | h1) | h1
      · exact .inl ⟨nb2 h1, by rw [h1] at g3; simpa using g3⟩
      · by_cases h : sortOf esc x = 2
        · exact .inr (.inl ⟨h1.1, h, by simpa using h1.2⟩)
        · exact .inl ⟨h, by simpa using h1.2⟩
      · refine .inr (.inr ⟨h1.1.1, h1.1.2, fun r hr => ?_⟩)
        have := List.all_eq_true.1 h1.2 r hr
        unfold rdFree at this
        split at this
        · rename_i u hu
          simp only [Bool.and_eq_true, Bool.not_eq_true'] at this
          obtain ⟨⟨⟨u1, u2⟩, u3⟩, u4⟩ := this
          exact ⟨u, hu, u1, by simpa using u2, dstIn_false u3, dstEq_false u4⟩
        · cases this
    · rcases h7 with h7 | h7
      · rw [hr] at h7; cases h7
      · simpa using h7

theorem one_anc {p : Nat × List Nat} (h : oneOk ops esc anc p = true) : (lookN anc p.1).testBit p.1 = false := by
  unfold oneOk at h
  split at h
  · simp only [Bool.and_eq_true, Bool.not_eq_true'] at h
    exact h.1.1.1
  · cases h

theorem one_op {p : Nat × List Nat} (h : oneOk ops esc anc p = true) : ∃ x, ops[p.1]? = some x := by
  unfold oneOk at h
  split at h
  · rename_i x hx; exact ⟨x, hx⟩
  · cases h

theorem fold_bit (l : List Nat) (i : Nat) : (l.foldr (fun j m => (m ||| lookN anc j) ||| (1 <<< j)) 0).testBit i = true ↔ ∃ j ∈ l, i = j ∨ (lookN anc j).testBit i = true := by
  induction l with
  | nil => simp
  | cons j l ih =>
    rw [List.foldr_cons, Nat.testBit_or, Nat.testBit_or, Bool.or_eq_true, Bool.or_eq_true, ih]
    have : (1 <<< j).testBit i = true ↔ i = j := by
      rw [Nat.shiftLeft_eq, Nat.one_mul, Nat.testBit_two_pow]
      simp [eq_comm]
    rw [this]
    simp only [List.mem_cons, exists_eq_or_imp]
    constructor
    · rintro ((h | h) | h)
      · exact .inr h
      · exact .inl (.inr h)
      · exact .inl (.inl h)
    · rintro ((h | h) | h)
      · exact .inr h
      · exact .inl (.inr h)
      · exact .inl (.inl h)

theorem anc_iff (h : ancOk ops anc = true) {i : Nat} {o : Oper} (ho : ops[i]? = some o) (q : Nat) : (lookN anc i).testBit q = true ↔ ∃ j ∈ bindsOf o, q = j ∨ (lookN anc j).testBit q = true := by
  unfold ancOk at h
  rw [List.all_eq_true] at h
  have := h i (List.mem_range.2 (List.getElem?_eq_some_iff.1 ho).1)
  rw [ho] at this
  simp only at this
  rw [Nat.eq_of_beq_eq_true this]
  exact fold_bit _ _

theorem pairs_iff : ∀ {l : List (Nat × List Nat)}, pairsOk ops esc anc l = true → l.Pairwise (fun p q => pairOk ops esc anc p q = true)
  | [], _ => .nil
  | p :: l, h => by
    simp only [pairsOk, Bool.and_eq_true, List.all_eq_true] at h
    exact .cons h.1 (pairs_iff h.2)

structure Open (ops : List Oper) (esc : List Nat) (anc : List (Nat × Nat)) (l : List (Nat × List Nat)) (listed : Array Bool) : Prop where
  mem : ∀ i, i < ops.length → (listed.getD i true = false ↔ i ∈ l.map (·.1))
  size : listed.size = ops.length
  closed : ∀ i q, listed.getD i false = true → (lookN anc i).testBit q = true → listed.getD q false = true
  nodup : (l.map (·.1)).Nodup
  one : ∀ p ∈ l, oneOk ops esc anc p = true
  pairs : l.Pairwise (fun p q => pairOk ops esc anc p q = true)

theorem getD_both {listed : Array Bool} {i : Nat} (h : listed.getD i false = true) : listed.getD i true = true := by
  rcases Nat.lt_or_ge i listed.size with h' | h'
  · simp [h'] at h ⊢; exact h
  · simp [Array.getElem?_eq_none h']

theorem getD_back {listed : Array Bool} {i : Nat} (hi : i < listed.size) (h : listed.getD i true ≠ false) : listed.getD i false = true := by
  simp [hi] at h ⊢; exact h

theorem binds_mem {o : Oper} {j : Nat} : j ∈ bindsOf o ↔ ∃ e ∈ o.after, Region.binds .any e = true ∧ e.on = j := by
  unfold bindsOf
  simp only [List.mem_map, List.mem_filter, Array.mem_toList_iff]
  constructor
  · rintro ⟨e, ⟨h1, h2⟩, h3⟩; exact ⟨e, h1, h2, h3⟩
  · rintro ⟨e, h1, h2, h3⟩; exact ⟨e, ⟨h1, h2⟩, h3⟩

section
variable {l : List (Nat × List Nat)} {listed : Array Bool}

theorem Open.ready_anc (G : Open ops esc anc l listed) (hanc : ancOk ops anc = true) {i : Nat} (hi : i ∈ Region.ready .any ops.toArray listed) {q : Nat} (hq : (lookN anc i).testBit q = true) : listed.getD q false = true := by
  obtain ⟨_, o, ho, hall⟩ := mem_ready.1 hi
  have ho' : ops[i]? = some o := by simpa using ho
  obtain ⟨j, hj, h⟩ := (anc_iff hanc ho' q).1 hq
  obtain ⟨e, he, hb, rfl⟩ := binds_mem.1 hj
  have hl := hall e he hb
  rcases h with rfl | h
  · exact hl
  · exact G.closed _ _ hl h

theorem Open.ready_mem (G : Open ops esc anc l listed) {i : Nat} (hi : i ∈ Region.ready .any ops.toArray listed) : i ∈ l.map (·.1) ∧ i < ops.length := by
  obtain ⟨h0, o, ho, _⟩ := mem_ready.1 hi
  have hlt : i < ops.length := by
    have ho' : ops[i]? = some o := by simpa using ho
    exact (List.getElem?_eq_some_iff.1 ho').1
  exact ⟨(G.mem i hlt).1 h0, hlt⟩

theorem Open.head_ready {p : Nat × List Nat} (G : Open ops esc anc (p :: l) listed) (hanc : ancOk ops anc = true) (hlen : ∀ (i : Nat) (o : Oper) (j : Nat), ops[i]? = some o → j ∈ bindsOf o → j < ops.length) : p.1 ∈ Region.ready .any ops.toArray listed := by
  obtain ⟨x, hx⟩ := one_op (G.one p (by simp))
  have hlt := (List.getElem?_eq_some_iff.1 hx).1
  refine mem_ready.2 ⟨(G.mem _ hlt).2 (by simp), x, by simpa using hx, fun e he hb => ?_⟩
  have hj : e.on ∈ bindsOf x := binds_mem.2 ⟨e, he, hb, rfl⟩
  have hbit : (lookN anc p.1).testBit e.on = true := (anc_iff hanc hx _).2 ⟨_, hj, .inl rfl⟩
  have hjl := hlen _ _ _ hx hj
  refine getD_back (by rw [G.size]; exact hjl) fun hc => ?_
  have hm := (G.mem _ hjl).1 hc
  obtain ⟨q, hq, he⟩ := List.mem_map.1 hm
  rcases List.mem_cons.1 hq with rfl | hq
  · have := one_anc (G.one q (by simp))
    rw [he] at this
    rw [he] at hbit
    rw [this] at hbit; cases hbit
  · have := pair_anc (List.rel_of_pairwise_cons G.pairs hq)
    rw [he, hbit] at this; cases this

theorem Open.step {pre post : List (Nat × List Nat)} {p : Nat × List Nat} (G : Open ops esc anc (pre ++ p :: post) listed) (hanc : ancOk ops anc = true) (hr : p.1 ∈ Region.ready .any ops.toArray listed) :
    Open ops esc anc (pre ++ post) (listed.setIfInBounds p.1 true) := by
  have hnd := G.nodup
  have hsub : (pre ++ post).Sublist (pre ++ p :: post) := List.Sublist.append_left (List.sublist_cons_self _ _) _
  have hplt := (G.ready_mem hr).2
  refine { size := by simp [G.size], nodup := hnd.sublist (hsub.map _), one := fun q hq => G.one q (hsub.subset hq), pairs := G.pairs.sublist hsub, mem := fun i hi => ?_, closed := fun i q hi hq => ?_ }
  · by_cases he : p.1 = i
    · subst he
      have h1 : (listed.setIfInBounds p.1 true).getD p.1 true = true := by simp [Array.getElem?_setIfInBounds, G.size, hi]
      rw [h1]
      simp only [Bool.true_eq_false, false_iff]
      intro hm
      rw [List.map_append, List.map_cons] at hnd
      rw [List.map_append] at hm
      rw [List.nodup_append] at hnd
      obtain ⟨h1, h2, h3⟩ := hnd
      rcases List.mem_append.1 hm with hm | hm
      · exact h3 _ hm _ (by simp) rfl
      · exact (List.nodup_cons.1 h2).1 hm
    · rw [getD_set_ne true he, G.mem i hi]
      simp only [List.map_append, List.map_cons, List.mem_append, List.mem_cons]
      constructor
      · rintro (h | h | h)
        · exact .inl h
        · exact (he h.symm).elim
        · exact .inr h
      · rintro (h | h)
        · exact .inl h
        · exact .inr (.inr h)
  · by_cases he : p.1 = i
    · subst he
      exact getD_set_true (G.ready_anc hanc hr hq)
    · rw [getD_set_ne false he] at hi
      exact getD_set_true (G.closed i q hi hq)
end

variable {S : Sim} {w : World} {h : Heap} {lm : Nat → Option Nat} {B : Nat} {fr : Fr} {a : Act}

theorem any_sound {ro : Option Nat} (hz : zerosOk P ops = true) (hanc : ancOk ops anc = true) (hlen : ∀ (i : Nat) (o : Oper) (j : Nat), ops[i]? = some o → j ∈ bindsOf o → j < ops.length) {K : Fr → Heap → Prop} {Q : Exit → Act → World → Prop} :
    ∀ (l : List (Nat × List Nat)) {S w h fr lm a} (listed : Array Bool), Open ops esc anc l listed → HR S w h → FR B S w h fr lm a → B ≤ w.heap.size →
      (∀ p ∈ l, ∀ o, ops[p.1]? = some o → ∀ d, Begins esc o d → NoLp d fr) → runD P esc ops l fr h K → Goal B h S w K (Q .normal) → wpAnyIn (FW ro) 0 P .any ops.toArray Q l.length listed a w := by
  intro l
  induction hn : l.length generalizing l with
  | zero =>
    intro S w h fr lm a listed G H F hB _ hK hg
    have : l = [] := List.length_eq_zero_iff.1 hn
    subst this
    refine ⟨?_, hg S w h fr lm a hK H F (Le.refl _ _ _ _)⟩
    refine List.eq_nil_iff_forall_not_mem.2 fun i hi => ?_
    have := (G.ready_mem hi).1
    simp at this
  | succ n ih =>
    intro S w h fr lm a listed G H F hB hm hK hg
    refine ⟨fun hr => ?_, fun i hi => ?_⟩
    · cases l with
      | nil => simp at hn
      | cons p l =>
        have := G.head_ready hanc hlen
        rw [hr] at this
        cases this
    · obtain ⟨p, hp, he⟩ := List.mem_map.1 (G.ready_mem hi).1
      subst he
      obtain ⟨pre, post, rfl⟩ := List.append_of_mem hp
      obtain ⟨y, hy⟩ := one_op (G.one p (by simp))
      have hpairs := List.pairwise_append.1 G.pairs
      have hah : ∀ q ∈ pre ++ post, ∀ z, ops[q.1]? = some z → ∀ s, y.dst = some s → z.dst ≠ some s := fun q hq z hz s hs hz' => by
        rcases List.mem_append.1 hq with hq | hq
        · exact (pair_ahead (hpairs.2.2 q hq p (by simp)) z y hz hy).dst s hz' hs
        · exact (pair_ahead (List.rel_of_pairwise_cons hpairs.2.1 hq) y z hy hz).dst s hs hz'
      have hfr : ∀ q ∈ pre, ∃ x, ops[q.1]? = some x ∧ ((q.2 = [] ∧ FreeOp esc ops p.2 y q.1 x) ∨ (isNew y = true ∧ sortOf esc y = 2 ∧ p.2 = [])) ∧ (isNew y = true → sortOf esc y = 2 → p.2 = [] → FreeNew esc ops y q.2 x) := fun q hq => by
        obtain ⟨x, hx⟩ := one_op (G.one q (by simp [hq]))
        have hunl : (lookN anc p.1).testBit q.1 = false := by
          cases hb : (lookN anc p.1).testBit q.1 with
          | false => rfl
          | true =>
            have h1 := getD_both (G.ready_anc hanc hi hb)
            have h2 := (G.mem q.1 (List.getElem?_eq_some_iff.1 hx).1).2 (List.mem_map.2 ⟨q, by simp [hq], rfl⟩)
            rw [h1] at h2; cases h2
        obtain ⟨k2, k3⟩ := pair_free hx hy (hpairs.2.2 q hq p (by simp)) (G.one q (by simp [hq])) hunl
        exact ⟨x, hx, k2, k3⟩
      have hK2 : opW P esc ops y fr h fun f h' => runD P esc ops (pre ++ post) f h' K := by
        by_cases hc : isNew y = true ∧ sortOf esc y = 2 ∧ p.2 = []
        · obtain ⟨i, rc⟩ := p
          obtain ⟨c1, c2, c3⟩ := hc
          simp only at c3
          subst c3
          refine front_new hy c1 c2 hz pre fr h ⟨w.heap.size, fun l hl => ?_⟩ (fun q hq => ?_) (fun q hq x hx d hd => hm q (by simp [hq]) x hx d hd) (hpairs.1.imp fun {a b} k x z hx hz => pair_ahead k x z hx hz) hK
          · cases hh : h l with
            | none => rfl
            | some o =>
              have hob := H.obs l o hh
              have hfr := H.fresh l hl
              cases o with
              | cells cs => have := hob.1; rw [hfr.1] at this; cases this
              | grow es n => have := hob.1; rw [hfr.2] at this; cases this
              | obj q => have := hob.1; rw [hfr.1] at this; cases this
          · obtain ⟨x, k2, _, k3⟩ := hfr q hq
            exact ⟨x, k2, k3 c1 c2 rfl⟩
        · have hK' := front hy pre fr h [] (fun q hq => by
            obtain ⟨x, k2, k3, _⟩ := hfr q hq
            obtain ⟨k1, k3⟩ := k3.resolve_right hc
            exact ⟨k1, x, k2, k3⟩) (hpairs.1.imp fun {a b} k x z hx hz => pair_ahead k x z hx hz) (fun q hq x hx d hd => hm q (by simp [hq]) x hx d hd) (fun d hd => hm p (by simp) y hy d hd) (fun _ hr => by cases hr) hK
          exact opW_mono hK' fun _ _ _ k => k.1
      have hl : (pre ++ post).length = n := by simp at hn ⊢; omega
      have := opW_sound (ro := ro) H F hB ops y (fun d hd => hm p (by simp) y hy d hd) hK2 (wpAnyIn (FW ro) 0 P .any ops.toArray Q n (listed.setIfInBounds p.1 true)) Q ?_
      · have hy' : ops.toArray[p.1]? = some y := by simpa using hy
        unfold wpOpIn
        rw [hy']
        simp only
        split
        · rename_i hw; rw [if_pos hw] at this; exact this
        · rename_i hw; rw [if_neg hw] at this; exact ⟨fun _ _ => trivial, this⟩
      · intro S' w' h' fr' lm' a' hk H' F' L' hnl
        refine ih (pre ++ post) hl _ (G.step hanc hi) H' F' (Nat.le_trans hB L'.size) (fun q hq z hz d hd => ?_) hk ?_
        · refine hnl d (hm q ?_ z hz d hd) (fun hb => hah q hq z hz d hb.2 hd.2)
          rcases List.mem_append.1 hq with hq | hq
          · simp [hq]
          · simp [hq]
        · exact fun S2 w2 h2 fr2 lm2 a2 k2 H2 F2 L2 => hg S2 w2 h2 fr2 lm2 a2 k2 H2 F2 (Le.trans H L' L2)

theorem draws_sound (hmix : P.follows .mixedOrders = true) : Draws P esc := by
  intro ro S w h lm B fr a H F hB ops id K hK Q hg
  simp only [regW] at hK
  split at hK
  · rename_i plan hz hplan
    unfold regPlan at hplan
    simp only at hplan
    split at hplan
    · rename_i hok
      cases hplan
      generalize hanc0 : ancOf (ops.toList.map bindsOf) (asap ((ops.toList.map bindsOf).map maskOf) (ops.toList.map (sortOf esc)) ops.toList.length 0) [] = anc at hok hK
      generalize planOf ops.toList (ops.toList.map (sortOf esc)) anc (asap ((ops.toList.map bindsOf).map maskOf) (ops.toList.map (sortOf esc)) ops.toList.length 0) [] = plan at hok hK
      unfold planOk at hok
      simp only [Bool.and_eq_true] at hok
      obtain ⟨⟨⟨⟨⟨⟨⟨c1, c2⟩, c3⟩, c4⟩, c5⟩, c6⟩, c7⟩, c8⟩ := hok
      have hlen : plan.length = ops.toList.length := Nat.eq_of_beq_eq_true c1
      have hnd := nodupN_iff c2
      have hone : ∀ p ∈ plan, oneOk ops.toList esc anc p = true := fun p hp => List.all_eq_true.1 c5 p hp
      have hin : ∀ p ∈ plan, p.1 < ops.toList.length := fun p hp => by
        obtain ⟨x, hx⟩ := one_op (hone p hp)
        exact (List.getElem?_eq_some_iff.1 hx).1
      have hall : ∀ i, i < ops.toList.length → i ∈ plan.map (·.1) := fun i hi => hasN_iff.1 (List.all_eq_true.1 c8 i (List.mem_range.2 hi))
      have hb : ∀ (i : Nat) (o : Oper) (j : Nat), ops.toList[i]? = some o → j ∈ bindsOf o → j < ops.toList.length := fun i o j ho hj => by
        have := List.all_eq_true.1 (List.all_eq_true.1 c7 o (List.mem_of_getElem? ho)) j hj
        exact Nat.le_of_ble_eq_true this
      have G : Open ops.toList esc anc plan (Array.replicate ops.size false) :=
        { size := by simp, nodup := hnd, one := hone, pairs := pairs_iff c6
          mem := fun i hi => by
            have hi' : i < ops.size := by simpa using hi
            have e : (Array.replicate ops.size false).getD i true = false := by simp [hi']
            rw [e]
            simp only [true_iff]
            exact hall i hi
          closed := fun i q hi => by
            by_cases hi' : i < ops.size
            · simp [hi'] at hi
            · simp [hi'] at hi }
      obtain ⟨F1, n1, _⟩ := kill_sound (begun esc ops.toList) F
      have bl : Below w.heap.size w { w with drawn := w.drawn + 1 } := ⟨rfl, rfl, rfl, Nat.le_refl _, fun _ _ => rfl⟩
      refine wpIn_region_any hmix ?_
      have hsz : ops.size = plan.length := by rw [hlen]; simp
      have := any_sound (P := P) (esc := esc) (B := B) (Q := Q) (ro := ro) hz c4 hb plan (Array.replicate ops.size false) G (H.below bl) (F1.below H bl) hB
        (fun p _ o ho d hd => n1 d (begun_mem hd (List.mem_of_getElem? ho))) hK
        (fun S' w' h' fr' lm' a' k H' F' L' => hg S' w' h' fr' lm' a' k H' F' (Le.trans H ((Le.below _ H bl)) L'))
      rw [hsz]
      rw [← hsz] at this ⊢
      simpa using this
    · cases hplan
  · exact hK.elim
end
end Jb
end

section
/- What the library is used by. -/
namespace Jb
open Go

theorem CallW.body {P : Program} (hmix : P.follows .mixedOrders = true) (cf : Cfg) {f : FuncId} {fn : Func} (hf : P.funcs[f]? = some fn) {args : List V} (hn : args.length ≤ fn.ntmps) {h : Heap} {K : V → Heap → Prop}
    (hK : bodyW P cf fn args h K) (hr0 : cf.rnd = false := by rfl) : CallW P f args h K :=
  call_sound (draws_sound hmix) hr0 hf hn hK

theorem AnyW.call {P : Program} {f : FuncId} (he : enters P f = true) {args : List V} {h : Heap} {K : V → Heap → Prop} (c : CallW P f args h K) : AnyW P f args h K := by
  unfold AnyW; rw [he]; exact c

section
variable {P : Program} {esc : List Nat} {ops : List Oper}

theorem opW_mono' {o : Oper} {fr : Fr} {h : Heap} {K K' : Fr → Heap → Prop} (hK : opW P esc ops o fr h K) (m : ∀ f h', K f h' → K' f h') : opW P esc ops o fr h K' := opW_mono hK fun f h' _ k => m f h' k

theorem opsW_mono {K K' : Fr → Heap → Prop} (m : ∀ f h', K f h' → K' f h') : ∀ {l : List Oper} {fr : Fr} {h : Heap}, opsW P esc ops l fr h K → opsW P esc ops l fr h K'
  | [], _, _, k => m _ _ k
  | _ :: _, _, _, k => opW_mono' k fun _ _ k => opsW_mono m k

theorem runD_mono {K K' : Fr → Heap → Prop} (m : ∀ f h', K f h' → K' f h') : ∀ {l : List (Nat × List Nat)} {fr : Fr} {h : Heap}, runD P esc ops l fr h K → runD P esc ops l fr h K'
  | [], _, _, k => m _ _ k
  | (i, rc) :: l, fr, h, k => by
    simp only [runD] at k ⊢
    split at k
    · exact k
    · refine opW_mono' k fun f h' k => ?_
      rw [againsG_iff] at k ⊢
      exact ⟨k.1, runD_mono m k.2⟩

theorem regW_mono {draw : Bool} {fr : Fr} {h : Heap} {K K' : Fr → Heap → Prop} (m : ∀ f h', K f h' → K' f h') (k : regW P esc ops draw fr h K) : regW P esc ops draw fr h K' := by
  unfold regW at *
  split at k
  · split at k
    · exact opsW_mono m k
    · exact k
  · split at k
    · exact runD_mono m k
    · exact k

theorem seqK_mono {y y' : Fr → Heap → Prop} {Q Q' : Ex → Fr → Heap → Prop} (hy : ∀ f h, y f h → y' f h) (m : ∀ e f h', Q e f h' → Q' e f h') : ∀ e f h', seqK y Q e f h' → seqK y' Q' e f h' := by
  intro e f h' k
  cases e with
  | normal => exact hy _ _ k
  | exit i => exact m _ _ _ k
  | goto i => exact m _ _ _ k
  | ret => exact m _ _ _ k

theorem blockK_mono {id : Nat} {Q Q' : Ex → Fr → Heap → Prop} (m : ∀ e f h', Q e f h' → Q' e f h') : ∀ e f h', blockK id Q e f h' → blockK id Q' e f h' := by
  intro e f h' k
  cases e with
  | normal => exact m _ _ _ k
  | exit i =>
    simp only [blockK] at k ⊢
    split at k
    · exact m _ _ _ k
    · exact m _ _ _ k
  | goto i => exact m _ _ _ k
  | ret => exact m _ _ _ k

theorem LoopI.mono {B : Fr → Heap → (Ex → Fr → Heap → Prop) → Prop} (hB : ∀ {fr h Q Q'}, (∀ e f h', Q e f h' → Q' e f h') → B fr h Q → B fr h Q') {Q Q' : Ex → Fr → Heap → Prop} (m : ∀ e f h', Q e f h' → Q' e f h') {fr : Fr} {h : Heap}
    (k : LoopI B Q fr h) : LoopI B Q' fr h := by
  induction k with
  | mk fr h I hb hi ih => exact .mk fr h I (hB (seqK_mono (fun _ _ k => k) m) hb) ih

theorem loopEnd_mono {h : Heap} {l : Nat} {K K' : Ex → Heap → Prop} (m : ∀ e h', K e h' → K' e h') (k : loopEnd h l K) : loopEnd h l K' := by
  unfold loopEnd at *
  split at k
  · exact m _ _ k
  · split at k
    · exact m _ _ k
    · exact k
  · exact k

theorem scopeK_mono {c : Code} {y y' : Nat → Fr → Heap → Prop} {Q Q' : Ex → Fr → Heap → Prop} (hy : ∀ l f h, y l f h → y' l f h) (m : ∀ e f h', Q e f h' → Q' e f h') : ∀ e f h', scopeK c y Q e f h' → scopeK c y' Q' e f h' := by
  intro e f h' k
  cases e with
  | normal => exact m _ _ _ k
  | exit i => exact m _ _ _ k
  | ret => exact m _ _ _ k
  | goto l =>
    simp only [scopeK] at k ⊢
    split at k
    · exact hy _ _ _ k
    · exact m _ _ _ k

theorem ScopeI.mono {c : Code} {B : Nat → Fr → Heap → (Ex → Fr → Heap → Prop) → Prop} (hB : ∀ {l fr h Q Q'}, (∀ e f h', Q e f h' → Q' e f h') → B l fr h Q → B l fr h Q') {Q Q' : Ex → Fr → Heap → Prop} (m : ∀ e f h', Q e f h' → Q' e f h') {l : Nat} {fr : Fr} {h : Heap}
    (k : ScopeI c B Q l fr h) : ScopeI c B Q' l fr h := by
  induction k with
  | mk l fr h I hb hi ih => exact .mk l fr h I (hB (scopeK_mono (fun _ _ _ k => k) m) hb) ih

theorem wpAL_mono {cf : Cfg} (c : Code) : (∀ {fr : Fr} {h : Heap} {Q Q' : Ex → Fr → Heap → Prop}, (∀ e f h', Q e f h' → Q' e f h') → wpA P cf c fr h Q → wpA P cf c fr h Q') ∧
    (∀ {l : Nat} {fr : Fr} {h : Heap} {Q Q' : Ex → Fr → Heap → Prop}, (∀ e f h', Q e f h' → Q' e f h') → wpL P cf c l fr h Q → wpL P cf c l fr h Q') := by
  induction c with
  | skip => exact ⟨fun m k => by unfold wpA at k ⊢; exact m _ _ _ k, fun m k => by unfold wpL at k; exact k.elim⟩
  | label l => exact ⟨fun m k => by unfold wpA at k ⊢; exact m _ _ _ k, fun m k => by unfold wpL at k ⊢; exact m _ _ _ k⟩
  | exit id => exact ⟨fun m k => by unfold wpA at k ⊢; exact m _ _ _ k, fun m k => by unfold wpL at k; exact k.elim⟩
  | goto id => exact ⟨fun m k => by unfold wpA at k ⊢; exact m _ _ _ k, fun m k => by unfold wpL at k; exact k.elim⟩
  | ret => exact ⟨fun m k => by unfold wpA at k ⊢; exact m _ _ _ k, fun m k => by unfold wpL at k; exact k.elim⟩
  | region id ops draw => exact ⟨fun m k => by unfold wpA at k ⊢; exact regW_mono (fun f h' k => m _ _ h' k) k, fun m k => by unfold wpL at k; exact k.elim⟩
  | seq x y ihx ihy =>
    refine ⟨fun m k => by unfold wpA at k ⊢; exact ihx.1 (seqK_mono (fun _ _ k => ihy.1 m k) m) k, fun m k => ?_⟩
    unfold wpL at k ⊢
    split
    · rename_i hl; simp only [hl] at k; exact ihx.2 (seqK_mono (fun _ _ k => ihy.1 m k) m) k
    · rename_i hl; simp only [hl] at k; exact ihy.2 m k
  | cond c x y ihx ihy =>
    refine ⟨?_, fun m k => by unfold wpL at k; exact k.elim⟩
    intro fr h Q Q' m k
    unfold wpA at k ⊢
    generalize fr.ev c = v at k ⊢
    cases v <;> try exact k.elim
    rename_i b
    cases b with
    | true => exact ihx.1 m k
    | false => exact ihy.1 m k
  | block id c ih => exact ⟨fun m k => by unfold wpA at k ⊢; exact ih.1 (blockK_mono m) k, fun m k => by unfold wpL at k; exact k.elim⟩
  | loop c ih =>
    refine ⟨?_, fun m k => by unfold wpL at k; exact k.elim⟩
    intro fr h Q Q' m k
    unfold wpA at k ⊢
    exact LoopI.mono (B := fun fr h Q => wpA P cf c fr h Q) (fun m k => ih.1 m k) m k
  | scope c ih =>
    refine ⟨?_, fun m k => by unfold wpL at k; exact k.elim⟩
    intro fr h Q Q' m k
    unfold wpA at k ⊢
    exact ih.1 (scopeK_mono (fun _ _ _ k => ScopeI.mono (B := fun l fr h Q => wpL P cf c l fr h Q) (fun m k => ih.2 m k) m k) m) k
  | rangeFunc f ps zs b _ _ =>
    refine ⟨?_, fun m k => by unfold wpL at k; exact k.elim⟩
    intro fr h Q Q' m k
    unfold wpA at k ⊢
    unfold rangeW at k ⊢
    split at k
    · exact ⟨k.1, fun l hl => (k.2 l hl).mono fun _ h' k => loopEnd_mono (fun e h' k => m e _ h' k) k⟩
    · exact k
  | refuse s => exact ⟨fun _ k => by unfold wpA at k; exact k.elim, fun m k => by unfold wpL at k; exact k.elim⟩

theorem wpA_mono {cf : Cfg} (c : Code) : ∀ {fr : Fr} {h : Heap} {Q Q' : Ex → Fr → Heap → Prop}, (∀ e f h', Q e f h' → Q' e f h') → wpA P cf c fr h Q → wpA P cf c fr h Q' := (wpAL_mono c).1

end
end Jb
end

section
/- What simp needs to know. -/
namespace Jb
open Go

@[simp] theorem brW_true (T E : Prop) : brW true T E = T := rfl
@[simp] theorem brW_false (T E : Prop) : brW false T E = E := rfl
@[simp] theorem seqK_normal (y : Fr → Heap → Prop) (Q : Ex → Fr → Heap → Prop) (f : Fr) (h : Heap) : seqK y Q .normal f h = y f h := rfl
@[simp] theorem seqK_exit (y : Fr → Heap → Prop) (Q : Ex → Fr → Heap → Prop) (i : Nat) (f : Fr) (h : Heap) : seqK y Q (.exit i) f h = Q (.exit i) f h := rfl
@[simp] theorem seqK_ret (y : Fr → Heap → Prop) (Q : Ex → Fr → Heap → Prop) (f : Fr) (h : Heap) : seqK y Q .ret f h = Q .ret f h := rfl
@[simp] theorem blockK_normal (id : Nat) (Q : Ex → Fr → Heap → Prop) (f : Fr) (h : Heap) : blockK id Q .normal f h = Q .normal f h := rfl
@[simp] theorem blockK_ret (id : Nat) (Q : Ex → Fr → Heap → Prop) (f : Fr) (h : Heap) : blockK id Q .ret f h = Q .ret f h := rfl
@[simp] theorem blockK_exit (id i : Nat) (Q : Ex → Fr → Heap → Prop) (f : Fr) (h : Heap) : blockK id Q (.exit i) f h = if i = id then Q .normal f h else Q (.exit i) f h := by
  simp only [blockK]
  by_cases e : i = id
  · subst e; simp
  · have : Nat.beq i id = false := by cases hb : Nat.beq i id with | false => rfl | true => exact (e (Nat.eq_of_beq_eq_true hb)).elim
    rw [this, if_neg e]
@[simp] theorem num_int (k : IntKind) (n : Int) : V.num (.int k n) = n := rfl
@[simp] theorem flag_bool (b : Bool) : V.flag (.bool b) = b := rfl
@[simp] theorem text_str (s : ByteArray) : V.text (.str s) = s := rfl
@[simp] theorem els_sl (es : Nat) (l : List (List V)) (g : G) : V.els (.sl es l g) = l := rfl
@[simp] theorem right_sl (es : Nat) (l : List (List V)) (g : G) : V.right (.sl es l g) = g := rfl
@[simp] theorem cells_agg (cs : List V) : V.cells (.agg cs) = cs := rfl
@[simp] theorem vs_tup (cs : List V) : V.vs (.tup cs) = cs := rfl
@[simp] theorem isBool_bool (b : Bool) : V.isBool (.bool b) = true := rfl
@[simp] theorem isStr_str (b : ByteArray) : V.isStr (.str b) = true := rfl
@[simp] theorem isInt_i64 (n : Int) : V.isInt .i64 (.int .i64 n) = true := rfl
@[simp] theorem isInt_i32 (n : Int) : V.isInt .i32 (.int .i32 n) = true := rfl
@[simp] theorem isInt_i8 (n : Int) : V.isInt .i8 (.int .i8 n) = true := rfl
@[simp] theorem isInt_i16 (n : Int) : V.isInt .i16 (.int .i16 n) = true := rfl
@[simp] theorem isInt_u64 (n : Int) : V.isInt .u64 (.int .u64 n) = true := rfl
@[simp] theorem isInt_u32 (n : Int) : V.isInt .u32 (.int .u32 n) = true := rfl
@[simp] theorem isInt_u16 (n : Int) : V.isInt .u16 (.int .u16 n) = true := rfl
@[simp] theorem isInt_u8 (n : Int) : V.isInt .u8 (.int .u8 n) = true := rfl
@[simp] theorem isSl_sl (es : Nat) (l : List (List V)) (g : G) : V.isSl es (.sl es l g) = true := by simp [V.isSl]
@[simp] theorem isAgg_agg (n : Nat) (cs : List V) : V.isAgg n (.agg cs) = decide (cs.length = n) := by
  simp only [V.isAgg]
  by_cases e : cs.length = n
  · rw [e]; simp
  · have : Nat.beq cs.length n = false := by cases hb : Nat.beq cs.length n with | false => rfl | true => exact (e (Nat.eq_of_beq_eq_true hb)).elim
    simp [this, e]
@[simp] theorem isTup_tup (n : Nat) (cs : List V) : V.isTup n (.tup cs) = decide (cs.length = n) := by
  simp only [V.isTup]
  by_cases e : cs.length = n
  · rw [e]; simp
  · have : Nat.beq cs.length n = false := by cases hb : Nat.beq cs.length n with | false => rfl | true => exact (e (Nat.eq_of_beq_eq_true hb)).elim
    simp [this, e]
@[simp] theorem ptrK_ptr (l off : Nat) (A : Nat → Nat → Prop) (B : Prop) : ptrK (.ptr l off) A B = A l off := rfl
@[simp] theorem ptrK_nil (A : Nat → Nat → Prop) (B : Prop) : ptrK .nilp A B = B := rfl
@[simp] theorem appG_own (es n m s : Nat) (h : Heap) (K : G → Heap → Prop) : appG es n m (.own s) h K = (h s = some (.grow es n) ∧ K (.own s) (h.upd s (.grow es (n + m)))) := rfl
@[simp] theorem appG_full (es n m : Nat) (h : Heap) (K : G → Heap → Prop) : appG es n (m + 1) .full h K = (∀ s, h s = none → K (.own s) (h.upd s (.grow es (n + (m + 1))))) := rfl
@[simp] theorem upd_same (h : Heap) (l : Nat) (o : Ob) : h.upd l o l = some o := by simp [Heap.upd]
theorem upd_ne (h : Heap) {l x : Nat} (o : Ob) (hne : x ≠ l) : h.upd l o x = h x := by simp [Heap.upd, hne]
@[simp] theorem upd_upd (h : Heap) (l : Nat) (o o' : Ob) : (h.upd l o).upd l o' = h.upd l o' := by
  funext x; simp only [Heap.upd]; split <;> rfl
@[simp] theorem cellsAt_same (h : Heap) (l : Nat) (cs : List V) : cellsAt (h.upd l (.cells cs)) l = cs := by simp [cellsAt]
end Jb
end

section
/- Lists of numbers as cells; ways to step. -/
namespace Jb
open Go

@[simp] theorem wpA_seq {P : Program} {g : Cfg} {a b : Code} {fr : Fr} {h : Heap} {Q : Ex → Fr → Heap → Prop} : wpA P g (.seq a b) fr h Q = wpA P g a fr h (seqK (fun fr' h' => wpA P g b fr' h' Q) Q) := rfl

def ints (l : List Int) : List V := l.map (.int .i64)
def col (l : List Int) : List (List V) := l.map fun n => [.int .i64 n]

@[simp] theorem ints_len (l : List Int) : (ints l).length = l.length := by simp [ints]
@[simp] theorem col_len (l : List Int) : (col l).length = l.length := by simp [col]
@[simp] theorem ints_nil : ints [] = [] := rfl
@[simp] theorem col_nil : col [] = [] := rfl
@[simp] theorem ints_cons (a : Int) (l : List Int) : ints (a :: l) = .int .i64 a :: ints l := rfl
@[simp] theorem col_cons (a : Int) (l : List Int) : col (a :: l) = [.int .i64 a] :: col l := rfl
theorem ints_append (l m : List Int) : ints (l ++ m) = ints l ++ ints m := by simp [ints]
def gi (l : List Int) (i : Nat) : Int := l.getD i 0
def gv (cs : List V) (i : Nat) : V := cs.getD i .undef
def ge (l : List (List V)) (i : Nat) : List V := l.getD i []
@[simp] theorem gv_zero (a : V) (l : List V) : gv (a :: l) 0 = a := rfl
@[simp] theorem gv_succ (a : V) (l : List V) (n : Nat) : gv (a :: l) (n + 1) = gv l n := rfl
@[simp] theorem ge_zero (a : List V) (l : List (List V)) : ge (a :: l) 0 = a := rfl
@[simp] theorem ge_succ (a : List V) (l : List (List V)) (n : Nat) : ge (a :: l) (n + 1) = ge l n := rfl
@[simp] theorem gi_zero (a : Int) (l : List Int) : gi (a :: l) 0 = a := rfl
@[simp] theorem gi_succ (a : Int) (l : List Int) (n : Nat) : gi (a :: l) (n + 1) = gi l n := rfl
theorem ints_get (l : List Int) {i : Nat} (hi : i < l.length) : gv (ints l) i = .int .i64 (gi l i) := by
  simp [gv, gi, ints, List.getD, List.getElem?_map, List.getElem?_eq_getElem hi]
@[simp] theorem ints_num (l : List Int) (i : Nat) : V.num (gv (ints l) i) = gi l i := by
  by_cases hi : i < l.length
  · rw [ints_get l hi]; rfl
  · simp [gv, gi, ints, List.getD, List.getElem?_map, List.getElem?_eq_none (Nat.le_of_not_lt hi), V.num]
@[simp] theorem ints_isInt (l : List Int) (i : Nat) : V.isInt .i64 (gv (ints l) i) = decide (i < l.length) := by
  by_cases hi : i < l.length
  · rw [ints_get l hi]; simp [hi]
  · simp [gv, ints, List.getD, List.getElem?_map, List.getElem?_eq_none (Nat.le_of_not_lt hi), V.isInt, hi]
@[simp] theorem ints_at (l : List Int) (i : Nat) (h : i < (ints l).length) : (ints l)[i] = .int .i64 (l[i]'(by simpa using h)) := by simp [ints]
theorem ints_take (l : List Int) (n : Nat) : (ints l).take n = ints (l.take n) := by simp [ints]
theorem ints_drop (l : List Int) (n : Nat) : (ints l).drop n = ints (l.drop n) := by simp [ints]
@[simp] theorem ints_wr1 (l : List Int) (off : Nat) (n : Int) (h : off < l.length) : wrCells (ints l) off [.int .i64 n] = ints (l.set off n) := by
  simp only [wrCells, ints_take, ints_drop, List.set_eq_take_append_cons_drop, h, if_true, ints_append, ints_cons, List.length_singleton, List.append_assoc, List.singleton_append]
theorem AnyW.of {P : Program} {f : FuncId} (he : enters P f = true) {args : List V} {h : Heap} {K0 K : V → Heap → Prop} (c : CallW P f args h K0) (m : ∀ r h', K0 r h' → K r h') : AnyW P f args h K :=
  AnyW.call he (c.mono m)
end Jb
namespace Jb
open Go
theorem Heap.sub_rfl (h : Heap) : h.Sub h := fun _ _ e => e
theorem Heap.Sub.trans {a b c : Heap} (x : a.Sub b) (y : b.Sub c) : a.Sub c := fun l o e => y l o (x l o e)
theorem Heap.sub_new {h h' : Heap} {l : Nat} {o : Ob} (e : h l = none) (s : h.Sub h') : h.Sub (h'.upd l o) := fun x o' hx => by
  have : x ≠ l := by rintro rfl; rw [e] at hx; cases hx
  rw [upd_ne h' o this]; exact s x o' hx
@[simp] theorem zero_addN (n : Nat) : 0 + n = n := Nat.zero_add n
end Jb
namespace Jb
open Go
def Can (g : G) (es n : Nat) (h : Heap) : Prop := g = .full ∨ ∃ s, g = .own s ∧ h s = some (.grow es n)
theorem Can.full {es n : Nat} {h : Heap} : Can .full es n h := .inl rfl
end Jb
end
