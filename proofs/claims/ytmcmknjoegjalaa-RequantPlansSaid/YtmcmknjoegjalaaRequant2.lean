/- Proved here: of Requant2, that what the Go functions of this part compute is as their contracts say (texts JbO, JbP, JbQ, JbS, JbT, JbR, JbU, JbV, JbW, JbX, JbY, S24, S32, Ca, Qa, S74, S63, S84, S83, Ra, S75, S64, S50, S51, Rb, S76), for every input; no condition beyond those that each theorem states. -/
import Derived.Test.YtmcmknjoegjalaaRequant1
import Derived.Orders
import Derived.IntWalk
import Derived.KernelRfl
import Derived.Test.YtmcmknjoegjalaaProg
set_option linter.all false
section
/- An operation with an effect; any operation under its guard. -/
namespace Jb
open Go Go.RowKit

section
variable {P : Program} {S : Sim} {w : World} {h : Heap} {lm : Nat → Option Nat} {B : Nat} {fr : Fr} {a : Act}

theorem shV_need {t : TypeId} {r : V} {K : V → Prop} (h : (shV P t True r).need K) : K r := by
  obtain ⟨c, v, e, hc⟩ := shV_same P t True r
  rw [e] at h
  have := (hc h.1).2.1
  rw [← this]
  exact h.2

theorem isRef_eq {es : Nat} {r : V} (h : r.isRef es = true) : r = .sref es r.rl r.ro r.rn r.rc := by
  cases r <;> try cases h
  rename_i e l o n c
  have : e = es := Nat.eq_of_beq_eq_true h
  subst this
  rfl

theorem shape1_same {mt : Bool} {t : TypeId} {r : V} {K : V → Prop} (h : shape1 P mt t r K) : K r := by
  unfold shape1 at h
  split at h
  · unfold ptrK at h
    split at h <;> first | exact h | exact h.elim
  · rw [isRef_eq h.1]; exact h.2
  · exact shV_need h

theorem shapes_same {mt : Bool} : ∀ {ts : List TypeId} {i : Nat} {vs : List V} {K : List V → Prop}, vs.length = i + ts.length → shapes P mt ts i vs K → K (vs.drop i)
  | [], i, vs, K, hl, h => by
    have : vs.drop i = [] := List.drop_eq_nil_of_le (by simp at hl; omega)
    rw [this]; exact h
  | t :: ts, i, vs, K, hl, h => by
    have h1 := shape1_same (K := fun v => shapes P mt ts (i + 1) vs fun l => K (v :: l)) h
    have h2 := shapes_same (K := fun l => K (vs.getD i .undef :: l)) (by simp at hl; omega) h1
    have hi : i < vs.length := by simp at hl; omega
    rw [List.drop_eq_getElem_cons hi]
    simpa [List.getD, List.getElem?_eq_getElem hi] using h2

theorem shape_same {mt : Bool} {t : TypeId} {r : V} {K : V → Prop} (h : shapeW P mt t r K) : K r := by
  unfold shapeW at h
  split at h
  · rename_i ts _
    obtain ⟨h1, h2⟩ := h
    cases r <;> try cases h1
    rename_i vs
    have hl : vs.length = 0 + ts.toList.length := by rw [Nat.zero_add]; exact Nat.eq_of_beq_eq_true h1
    have := shapes_same (P := P) (K := fun vs => K (.tup vs)) hl h2
    simpa using this
  · exact shape1_same h

theorem wp_value {o : Oper} {next : Act → World → Prop} {Q : Exit → Act → World → Prop} {x : Value} {w' : World} (hr : (execOp a.eval o).run P w = .ok (.value x) w') (h : next (a.put o.dst x) w') : o.wp P a w next Q := by
  unfold Oper.wp; rw [hr]; exact h

theorem wp_skip' {o : Oper} {next : Act → World → Prop} {Q : Exit → Act → World → Prop} {w' : World} (hr : (execOp a.eval o).run P w = .ok .skip w') (h : next (a.put o.dst Go.undef) w') : o.wp P a w next Q := by
  unfold Oper.wp; rw [hr]; exact h

theorem run_box {t : TypeId} {x : Value} : (Instr.box t x).run P w = .ok (.pointer (some ⟨w.heap.size, 0, none⟩)) (w.alloc (.cells x.cells t)) := by
  simp [Instr.box, newVar, alloc_run]

theorem run_alloc' {t : TypeId} {z : Value} (hz : (zeroValue t).run P w = .ok z w) : (Instr.alloc t true (.tuple #[])).run P w = .ok (.pointer (some ⟨w.heap.size, 0, none⟩)) (w.alloc (.cells z.cells t)) := by
  simp [Instr.alloc, hz, newVar, alloc_run]

theorem callFunc_enters {k : FuncId} (he : enters P k = true) (xs : Array Value) : (callFunc k xs).run P w = .ok (.enter k xs) w := by
  unfold enters at he
  split at he
  · rename_i fn hf
    simp only [Bool.and_eq_true] at he
    have hn : (fn.name == "runtime.NumGoroutine") = false := by simpa using he.2
    have hb : fn.body.isNone = false := by cases hb : fn.body <;> simp_all
    simp only [callFunc, Sem.run_bind, run_program, Result.andThen_ok, hf, hn, hb, Bool.false_eq_true, if_false]
    rfl
  · cases he

theorem storeW_tm {t : TypeId} {u v : V} {K : Fr → Heap → Prop} (hK : storeW P t u v fr h K) : storeW P t u v fr h (fun fr' h' => K fr' h' ∧ fr'.tm = fr.tm) := by
  revert hK
  unfold storeW
  cases okT P t <;> cases P.cellsOf t <;> simp only <;> try exact id
  rename_i n
  cases cellsQ (n + 1) v with
  | none => exact id
  | some p =>
    obtain ⟨new, c⟩ := p
    cases u <;> simp only <;> first | exact id | exact fun h => ⟨h.1, h.2.1, h.2.2, trivial⟩

theorem appendX_plain {mt : Bool} {t t2 : TypeId} {u v : V} {K : V → Heap → Prop} (hK : appendX P mt t t2 u v h K) : u.plain = true ∧ v.plain = true := by
  cases mt with
  | false =>
    replace hK : appendW P t t2 u v h K := hK
    unfold appendW at hK
    split at hK <;> try exact hK.elim
    split at hK <;> try exact hK.elim
    split at hK <;> try exact hK.elim
    rename_i hm
    refine ⟨rfl, ?_⟩
    unfold srcQ at hm
    split at hm <;> first | rfl | cases hm
  | true =>
    replace hK : appendM P t t2 u v h K := hK
    unfold appendM at hK
    split at hK <;> try exact hK.elim
    split at hK <;> try exact hK.elim
    split at hK <;> try exact hK.elim
    rename_i hm
    refine ⟨rfl, ?_⟩
    unfold srcQ at hm
    split at hm <;> first | rfl | cases hm

theorem appendX_sound {mt : Bool} (H : HR S w h) {t t2 : TypeId} {u v : V} {x y : Value} (more : List TypeId) (ty : TypeId) (hu : Rel S w u x) (hv : Rel S w v y) {K : V → Heap → Prop} (hK : appendX P mt t t2 u v h K) :
    Eff h S w K ((Builtin.append_ (t :: t2 :: more).toArray ty #[x, y]).run P w) := by
  cases mt with
  | false => exact append_sound H more ty hu hv hK
  | true => exact appendM_sound H more ty hu hv hK

/-- What is asked of whatever stands behind. -/
def Next (B : Nat) (h : Heap) (S : Sim) (w : World) (lm : Nat → Option Nat) (a : Act) (K : V → Fr → Heap → Prop) (fr : Fr) (dst : Option Tmp) (next : Act → World → Prop) : Prop :=
  ∀ S' w' h' fr' v x, K v fr' h' → HR S' w' h' → FR B S' w' h' fr' lm a → Rel S' w' v x → Le (fun rb => B ≤ rb) h S w h' S' w' → fr'.tm = fr.tm → next (a.put dst x) w'

theorem effW_sound {mt : Bool} (H : HR S w h) (F : FR B S w h fr lm a) (o : Oper) (ρ : Operand → V) (hρ : ∀ x ∈ o.op.operands.toList, TmRel S w lm (ρ x) (a.eval x)) {K : V → Fr → Heap → Prop}
    (hK : effW P mt o.op o.type ρ fr h K) (next : Act → World → Prop) (Q : Exit → Act → World → Prop) (hn : Next B h S w lm a K fr o.dst next) : o.wp P a w next Q := by
  obtain ⟨dst, op, type, pos, after, guard⟩ := o
  simp only at hρ hK hn
  unfold effW at hK
  split at hK
  · -- alloc
    rename_i t
    split at hK
    · rename_i cs hz
      obtain ⟨z, hzr, hr, h1, _, _⟩ := run_zeroValue (w := w) S hz
      obtain ⟨g1, g2⟩ := heap_new H (cs := cs) (c := z.cells) t h1 hr
      exact wp_value (by simp [execOp, run_alloc' hzr]) (hn _ _ _ fr _ _ (hK _ H.none) g1 (F.le H g2) (Rel.ptr _ _) (g2.weaken _) rfl)
    · exact hK.elim
  · -- box
    rename_i t x
    split at hK
    · rename_i cs c ht hq
      obtain ⟨hc, hK⟩ := hK
      obtain ⟨c1, c2, c3, c4⟩ := cells_rel (hρ x (by simp [Op.operands])) hq hc
      obtain ⟨g1, g2⟩ := heap_new H (cs := cs) (c := (a.eval x).cells) t c4 c3
      exact wp_value (by simp [execOp, run_box]) (hn _ _ _ fr _ _ (hK _ H.none) g1 (F.le H g2) (Rel.ptr _ _) (g2.weaken _) rfl)
    · exact hK.elim
  · -- store
    rename_i t x y
    obtain ⟨w', hr, hnext⟩ := store_sound (P := P) H F t (hρ x (by simp [Op.operands])) (hρ y (by simp [Op.operands])) (storeW_tm hK)
      (fun w' => next (a.put dst Go.undef) w') (fun w' h' fr' hk H' F' L' => hn S w' h' fr' .undef Go.undef hk.1 H' F' (Rel.undef _) L' hk.2)
    exact wp_skip' (by simp [execOp, hr]) hnext
  · -- call
    rename_i c
    obtain ⟨callee, args, ts⟩ := c
    have hargs : ∀ x ∈ args.toList, TmRel S w lm (ρ x) (a.eval x) := fun x hx => hρ x (by simp [Op.operands, Call.operands]; exact .inr (by simpa using hx))
    cases callee with
    | value f =>
      simp only at hK
      split at hK
      · rename_i k first caps hf
        split at hK
        · rename_i hp
          have hfr := hρ f (by simp [Op.operands, Call.operands])
          rw [hf] at hfr
          have hfr' : Rel S w (.fn (.func k) first caps) (a.eval f) := hfr
          generalize hev : a.eval f = fv at hfr'
          cases hfr' with
          | fn _ _ _ xs ys h1 h2 hx hy =>
            have hargl : RelL S w (args.toList.map ρ) (args.toList.map a.eval) := relL_of_plain (lm := lm) (by simp) hp (map_rel ρ a.eval args.toList hargs)
            have hall : RelL S w (first ++ args.toList.map ρ ++ caps) (xs ++ args.toList.map a.eval ++ ys) := RelL.append (RelL.append (show RelL S w first xs from ⟨h1, hx⟩) hargl) ⟨h2, hy⟩
            have harr : (xs.toArray ++ args.map a.eval) ++ ys.toArray = (xs ++ args.toList.map a.eval ++ ys).toArray := by apply Array.ext'; simp
            have hrun : (execOp a.eval { dst, op := .call { callee := .value f, args, argTypes := ts }, type, pos, after, guard }).run P w = (callFunc k (xs ++ args.toList.map a.eval ++ ys).toArray).run P w := by
              rw [← harr]
              simp [execOp, resolve, hev, Deferred.ofValue, invoke]
            unfold AnyW at hK
            split at hK
            · rename_i he
              unfold Oper.wp
              rw [hrun, callFunc_enters he]
              refine (hK S w _ H hall).mono ?_
              rintro e w' ⟨r, x, h', S', rfl, hk, H', hr, L'⟩
              exact hn S' w' h' fr r x (shape_same hk) H' (F.le H L') hr (L'.weaken _) rfl
            · obtain ⟨r, x, w', h', S', hr, hk, H', hrel, L'⟩ := hK S w _ H hall
              exact wp_value (by rw [hrun]; exact hr) (hn S' w' h' fr r x (shape_same hk) H' (F.le H L') hrel (L'.weaken _) rfl)
        · exact hK.elim
      · exact hK.elim
    | invoke x n => exact hK.elim
    | builtin b =>
      have hargs' : ∀ x ∈ args.toList, TmRel S w lm (ρ x) (a.eval x) := hargs
      cases b <;> try exact hK.elim
      case append =>
        simp only at hK
        split at hK
        · rename_i t t2 more x y ht hx
          have e1 : args = #[x, y] := by apply Array.ext'; simpa using hx
          have e2 : ts = (t :: t2 :: more).toArray := by apply Array.ext'; simpa using ht
          subst e1
          subst e2
          have rx := hargs x (by simp)
          have ry := hargs y (by simp)
          obtain ⟨p1, p2⟩ := appendX_plain hK
          obtain ⟨v, z, w', h', S', hr, hk, H', hrel, L'⟩ := appendX_sound H more type (rx.rel p1) (ry.rel p2) hK
          exact wp_value (by simpa [execOp, resolve, invoke, builtin] using congrArg (fun r => r.andThen fun a w' => Result.ok (Next.value a) w') hr) (hn S' w' h' fr v z hk H' (F.le H L') hrel (L'.weaken _) rfl)
        · exact hK.elim
  · exact hK.elim
end
end Jb
end

section
/- Operations under guards, one behind the other. -/
namespace Jb
open Go Go.RowKit

section
variable {P : Program} {S : Sim} {w : World} {h : Heap} {lm : Nat → Option Nat} {B : Nat} {fr : Fr} {a : Act} {esc : List Nat}

theorem FR.put (F : FR B S w h fr lm a) (dst : Option Tmp) {v : V} {x : Value} (hv : TmRel S w lm v x) : FR B S w h (fr.put dst v) lm (a.put dst x) := by
  cases dst with
  | none => exact F
  | some d =>
    exact { size := by simp [Fr.put, Act.put, F.size]
            tm := fun i u hu => by
              simp only [Fr.put] at hu
              simp only [Act.put]
              rw [List.getElem?_set] at hu
              by_cases hi : d = i
              · subst hi
                rw [if_pos rfl] at hu
                split at hu
                · rename_i hlt
                  cases hu
                  have : d < a.tmps.size := by rw [F.size]; exact hlt
                  simpa [Array.getD, this] using hv
                · cases hu
              · rw [if_neg hi] at hu
                have := F.tm i u hu
                simpa [Array.getElem?_setIfInBounds, hi] using this
            vars := F.vars, inj := F.inj, lb := F.lb, lo := F.lo, nd := F.nd, dfs := F.dfs }

theorem FR.below {w' : World} (H : HR S w h) (F : FR B S w h fr lm a) (b : Below w.heap.size w w') : FR B S w' h fr lm a := F.le H (Le.below _ H b)

theorem getD_bool {x : Value} {t : Bool} {d : Nat} (h : x = a.tmps.getD d Go.undef) (hx : x = .bool t) : a.tmps[d]? = some (.bool t) := by
  subst h
  rcases Nat.lt_or_ge d a.tmps.size with hd | hd
  · simp [Array.getD, hd] at hx
    simp [hd, hx]
  · simp [Array.getD, Nat.not_lt.2 hd, Go.undef] at hx

theorem guard_sound (F : FR B S w h fr lm a) (ops : List Oper) (o : Oper) {g : Option Bool} (hg : guardOf ops fr o = some g) : Region.wanted o (yielded ops.toArray a.tmps) = (match g with | none => true | some b => b) := by
  unfold guardOf at hg
  unfold Region.wanted
  split at hg
  · cases hg; rename_i hn; rw [hn]
  · rename_i j want hj
    rw [hj]
    simp only
    split at hg
    · rename_i p hp
      split at hg
      · rename_i d hd
        have hy : yielded ops.toArray a.tmps j = (match a.tmps[d]? with | some (.bool b) => some b | _ => none) := by
          simp only [yielded]
          have : (ops.toArray[j]?).bind (·.dst) = some d := by simp [hp, hd]
          rw [this]
          rfl
        have hev := F.ev (.tmp d)
        simp only [Fr.ev, Act.eval] at hev
        split at hg
        · rename_i t ht
          cases hg
          rw [ht] at hev
          cases hx : a.tmps.getD d Go.undef <;> rw [hx] at hev <;> cases (show Rel S w (.bool t) _ from hev)
          have := getD_bool (a := a) rfl hx
          rw [hy, this]
          cases t <;> cases want <;> rfl
        · rename_i b t ht
          cases hg
          rw [ht] at hev
          obtain ⟨h1, h2⟩ := hev
          cases b with
          | true =>
            have h1 := h1 rfl
            cases hx : a.tmps.getD d Go.undef <;> rw [hx] at h1 <;> cases (show Rel S w (.bool t) _ from h1)
            have := getD_bool (a := a) rfl hx
            rw [hy, this]
            cases t <;> cases want <;> rfl
          | false =>
            have h2 := h2 rfl
            have : (match a.tmps[d]? with | some (.bool b) => some b | _ => none) = none := by
              cases hd' : a.tmps[d]? with
              | none => rfl
              | some x =>
                have : a.tmps.getD d Go.undef = x := by
                  obtain ⟨hlt, hx⟩ := Array.getElem?_eq_some_iff.1 hd'
                  simp [Array.getD, hlt, hx]
                rw [this] at h2
                subst h2
                rfl
            rw [hy, this]
            simp
        · cases hg
      · cases hg
    · cases hg

theorem exec_pick (dst : Option Tmp) (c x y : Operand) (type : TypeId) (pos : String) (after : Array Edge) (guard : Option (Nat × Bool)) :
    (execOp a.eval { dst, op := .pick c x y, type, pos, after, guard }).run P w = (do pure (Go.Next.value (← (do pure (if ← Go.asBool (a.eval c) then a.eval x else a.eval y) : Sem Value))) : Sem Go.Next).run P w := by
  simp only [execOp, Sem.run_bind, Sem.run_pure]
  cases (Go.asBool (a.eval c)).run P w <;> rfl

/-- A quiet operation that is carried out. -/
theorem quiet_sound (H : HR S w h) (F : FR B S w h fr lm a) (o : Oper) (hneed : ∀ v ∈ quietOps o fr, ∀ b u, v = .opt b u → b = true) :
    SndN S w lm ((execOp a.eval o).run P w) (quietQ P fr h o) := by
  have hops : (∀ c x y, o.op ≠ .pick c x y) → ∀ x ∈ o.op.operands.toList, TmRel S w lm ((fr.ev x).strip) (a.eval x) := by
    intro hp x hx
    refine strip_rel (F.ev x) (hneed _ ?_)
    unfold quietOps
    split
    · rename_i c x y e; exact (hp _ _ _ e).elim
    · exact List.mem_map.2 ⟨x, hx, rfl⟩
  by_cases hp : ∃ c x y, o.op = .pick c x y
  · obtain ⟨c, x, y, e⟩ := hp
    obtain ⟨dst, op, type, pos, after, guard⟩ := o
    simp only at e
    subst e
    rw [exec_pick]
    refine Snd.next ?_
    exact pick_sound (strip_rel (F.ev c) (hneed _ (by simp [quietOps]))) (F.ev x) (F.ev y)
  · have hp' : ∀ c x y, o.op ≠ .pick c x y := fun c x y e => hp ⟨c, x, y, e⟩
    have := qop_sound (P := P) H F o (fun x => (fr.ev x).strip) (hops hp')
    unfold quietQ
    split
    · rename_i c x y e; exact (hp' _ _ _ e).elim
    · rename_i e
      obtain ⟨dst, op, type, pos, after, guard⟩ := o
      simp only at e
      subst e
      simp only [nilSlQ]
      split
      · exact ⟨.slice none 0 0, w, by simp [execOp, Act.eval], .refl _ _, Rel.slnil _ _ (fun s h => by cases h)⟩
      · exact True.intro
    · exact this

theorem quiet_clean (o : Oper) (d : Nat) (hd : NoLp d fr) : Clean d (quietQ P fr h o) := by
  by_cases hp : ∃ c x y, o.op = .pick c x y
  · obtain ⟨c, x, y, e⟩ := hp
    unfold quietQ
    rw [e]
    simp only [pickQ]
    repeat' split
    all_goals first | trivial | exact fun f => f
  · have hp' : ∀ c x y, o.op ≠ .pick c x y := fun c x y e => hp ⟨c, x, y, e⟩
    unfold quietQ
    split
    · rename_i c x y e; exact (hp' _ _ _ e).elim
    · unfold nilSlQ
      split
      · exact fun f => f
      · trivial
    · exact qop_clean o _ d (fun x hx => men_strip (hd.ev x))

/-- Does an operation begin variable d? -/
def Begins (esc : List Nat) (o : Oper) (d : Nat) : Prop := sortOf esc o = 1 ∧ o.dst = some d

/-- What is asked of what stands behind an operation. -/
def After (esc : List Nat) (B : Nat) (h : Heap) (S : Sim) (w : World) (fr : Fr) (o : Oper) (K : Fr → Heap → Prop) (next : Act → World → Prop) : Prop :=
  ∀ S' w' h' fr' lm' a', K fr' h' → HR S' w' h' → FR B S' w' h' fr' lm' a' → Le (fun rb => B ≤ rb) h S w h' S' w' → (∀ d, NoLp d fr → ¬ Begins esc o d → NoLp d fr') → next a' w'

theorem quiet_wp (H : HR S w h) (F : FR B S w h fr lm a) (ops : List Oper) (o : Oper) {g : Option Bool} (hg : guardOf ops fr o = some g) {K : Fr → Heap → Prop} (hK : quietW P g fr h o fun v => K (fr.put o.dst v) h)
    (next : Act → World → Prop) (Q : Exit → Act → World → Prop) (hn : After esc B h S w fr o K next) :
    if Region.wanted o (yielded ops.toArray a.tmps) then o.wp P a w next Q else next (a.put o.dst Go.undef) w := by
  have hw := guard_sound F ops o hg
  unfold quietW at hK
  rw [optNeeds_iff] at hK
  obtain ⟨hneed, hK⟩ := hK
  have skip : ∀ v, (∀ d, NoLp d fr → ¬ men d v) → TmRel S w lm v Go.undef → K (fr.put o.dst v) h → next (a.put o.dst Go.undef) w := fun v hm hv hk =>
    hn S w h (fr.put o.dst v) lm _ hk H (F.put _ hv) (Le.refl _ _ _ _) (fun d hd _ => hd.put _ (hm d hd))
  have go : ∀ v v', YieldsN S w lm ((execOp a.eval o).run P w) v → (∀ x w', TmRel S w' lm v x → TmRel S w' lm v' x) → (∀ d, NoLp d fr → ¬ men d v') → K (fr.put o.dst v') h → o.wp P a w next Q := by
    rintro v v' ⟨x, w', hr, hb, hv⟩ hvv hm hk
    exact wp_value hr (hn S w' h (fr.put o.dst v') lm _ hk (H.below hb) ((F.below H hb).put _ (hvv _ _ hv)) (Le.below _ H hb) (fun d hd _ => hd.put _ (hm d hd)))
  cases g with
  | none =>
    have hneed' : ∀ v ∈ quietOps o fr, ∀ b u, v = .opt b u → b = true := hneed
    have hs := quiet_sound (P := P) H F o hneed'
    have hc := quiet_clean (P := P) (h := h) (fr := fr) o
    rw [hw]
    simp only [if_true]
    cases hq : quietQ P fr h o with
    | bad => rw [hq] at hK; exact hK.elim
    | ok v =>
      rw [hq] at hs hK hc
      exact go v v hs (fun _ _ h => h) hc hK
    | chk c v =>
      rw [hq] at hs hK hc
      exact go v v (hs hK.1) (fun _ _ h => h) hc hK.2
  | some b =>
    rw [hw]
    simp only
    cases b with
    | true =>
      simp only [if_true]
      have hneed' : ∀ v ∈ quietOps o fr, ∀ b u, v = .opt b u → b = true := fun v hv b u e => hneed v hv b u e rfl
      have hs := quiet_sound (P := P) H F o hneed'
      have hc := quiet_clean (P := P) (h := h) (fr := fr) o
      cases hq : quietQ P fr h o with
      | bad => rw [hq] at hK; cases hK.1
      | ok v =>
        rw [hq] at hs hK hc
        exact go v (.opt true v) hs (fun _ _ h => ⟨fun _ => h, fun e => (by cases e)⟩) hc hK
      | chk c v =>
        rw [hq] at hs hK hc
        exact go v (.opt true v) (hs (hK.1 rfl)) (fun _ _ h => ⟨fun _ => h, fun e => (by cases e)⟩) hc hK.2
    | false =>
      simp only [Bool.false_eq_true, if_false]
      cases hq : quietQ P fr h o with
      | bad => rw [hq] at hK; exact skip .undef (fun _ _ f => f) (Rel.undef _) hK.2
      | ok v =>
        have hc := quiet_clean (P := P) (h := h) (fr := fr) o
        rw [hq] at hK hc
        exact skip (.opt false v) hc ⟨fun e => (by cases e), fun _ => rfl⟩ hK
      | chk c v =>
        have hc := quiet_clean (P := P) (h := h) (fr := fr) o
        rw [hq] at hK hc
        exact skip (.opt false v) hc ⟨fun e => (by cases e), fun _ => rfl⟩ hK.2
end
end Jb
end

section
/- Any operation in a frame; a region without a draw. -/
namespace Jb
open Go Go.RowKit

section
variable {P : Program} {S : Sim} {w : World} {h : Heap} {lm : Nat → Option Nat} {B : Nat} {fr : Fr} {a : Act} {esc : List Nat}

theorem begin_sound (H : HR S w h) (F : FR B S w h fr lm a) (hB : B ≤ w.heap.size) (o : Oper) {d : Nat} (hs : sortOf esc o = 1) (hd : o.dst = some d) (hm : NoLp d fr) {cs : List V} {c : Prop}
    (hneed : ∀ v ∈ o.op.operands.toList.map fr.ev, ∀ b u, v = .opt b u → b = true)
    (ho : ownVar P o.op (fun x => (fr.ev x).strip) = some (cs, c)) (hc : c) {K : Fr → Heap → Prop} (hK : K { tm := fr.tm.set d (.lp d 0), lc := lcSet d cs fr.lc } h)
    (next : Act → World → Prop) (Q : Exit → Act → World → Prop) (hn : After esc B h S w fr o K next) : o.wp P a w next Q := by
  have hρ : ∀ x ∈ o.op.operands.toList, TmRel S w lm ((fr.ev x).strip) (a.eval x) := fun x hx =>
    strip_rel (F.ev x) (hneed _ (List.mem_map.2 ⟨x, hx, rfl⟩))
  have fin : ∀ (e : TypeId) (arr : Array Value), (∀ v ∈ arr.toList, v.oneCell' = true) → RelL S w cs arr.toList → (execOp a.eval o).run P w = .ok (.value (.pointer (some ⟨w.heap.size, 0, none⟩))) (w.alloc (.cells arr e)) → o.wp P a w next Q := by
    intro e arr h1 hr hrun
    obtain ⟨g1, g2, g3⟩ := local_new H F hB e h1 hr hm
    refine wp_value hrun ?_
    rw [hd]
    refine hn _ _ _ _ _ _ hK g1 g2 g3 (fun d' hn' hb => ?_)
    have hne : d ≠ d' := fun e => hb ⟨hs, by rw [hd, e]⟩
    exact NoLp.put (fr := { fr with lc := lcSet d cs fr.lc }) hn' (some d) (v := .lp d 0) hne
  obtain ⟨dst, op, type, pos, after, guard⟩ := o
  simp only at ho hρ
  unfold ownVar at ho
  split at ho
  · rename_i t
    split at ho
    · rename_i cs' hz
      cases ho
      obtain ⟨z, hzr, hr, h1, _, _⟩ := run_zeroValue (w := w) S hz
      exact fin t z.cells h1 hr (by simp [execOp, run_alloc' hzr])
    · cases ho
  · rename_i t x
    split at ho
    · obtain ⟨c1, c2, c3, c4⟩ := cells_rel (hρ x (by simp [Op.operands])) ho hc
      exact fin t _ c4 c3 (by simp [execOp, run_box])
    · cases ho
  · cases ho

theorem yes_rel {t : TypeId} {v : V} {x : Value} {S : Sim} {w : World} (h : TmRel S w lm v x) : TmRel S w lm (yesV P t true v) x := by
  unfold yesV
  split <;> first | exact h | exact ⟨fun _ => h, fun e => (by cases e)⟩
theorem yes_men {t : TypeId} {b : Bool} {v : V} {d : Nat} (h : ¬ men d v) : ¬ men d (yesV P t b v) := by
  unfold yesV
  split <;> exact h
theorem no_rel {t : TypeId} {S : Sim} {w : World} : TmRel S w lm (noV P t false) Go.undef := by
  unfold noV
  split <;> first | exact ⟨fun e => (by cases e), fun _ => rfl⟩ | exact Rel.undef _
theorem no_men {t : TypeId} {b : Bool} {d : Nat} : ¬ men d (noV P t b) := by
  unfold noV
  split <;> exact fun f => f

theorem effect_sound {mt : Bool} (H : HR S w h) (F : FR B S w h fr lm a) (o : Oper) {K : Fr → Heap → Prop} (m : V → V) (hm1 : ∀ S w v x, TmRel S w lm v x → TmRel S w lm (m v) x) (hm2 : ∀ d v, ¬ men d v → ¬ men d (m v))
    (hK : optNeeds none (o.op.operands.toList.map fr.ev) (effW P mt o.op o.type (fun x => (fr.ev x).strip) fr h fun v fr' h' => K (fr'.put o.dst (m v)) h'))
    (next : Act → World → Prop) (Q : Exit → Act → World → Prop) (hn : After esc B h S w fr o K next) : o.wp P a w next Q := by
  rw [optNeeds_iff] at hK
  obtain ⟨hneed, hK⟩ := hK
  refine effW_sound H F o _ (fun x hx => strip_rel (F.ev x) (hneed _ (List.mem_map.2 ⟨x, hx, rfl⟩))) hK next Q ?_
  intro S' w' h' fr' v x hk H' F' hr L' ht
  refine hn S' w' h' _ lm _ hk H' (F'.put _ (hm1 _ _ _ _ (.of_rel hr))) L' (fun d hd _ => ?_)
  refine NoLp.put (fun i v hv => ?_) _ (hm2 _ _ (hr.not_men d))
  rw [ht] at hv
  exact hd i v hv

/-- Any operation: who asks what 'opW' asks gets what stands behind. -/
theorem opW_sound (H : HR S w h) (F : FR B S w h fr lm a) (hB : B ≤ w.heap.size) (ops : List Oper) (o : Oper) (hm : ∀ d, Begins esc o d → NoLp d fr) {K : Fr → Heap → Prop} (hK : opW P esc ops o fr h K)
    (next : Act → World → Prop) (Q : Exit → Act → World → Prop) (hn : After esc B h S w fr o K next) :
    if Region.wanted o (yielded ops.toArray a.tmps) then o.wp P a w next Q else next (a.put o.dst Go.undef) w := by
  unfold opW at hK
  split at hK
  · exact hK.elim
  rename_i g hg
  split at hK
  · exact quiet_wp H F ops o hg hK next Q hn
  · rename_i hs
    split at hK
    · rename_i d cs c hd ho
      rw [optNeeds_iff] at hK
      obtain ⟨hneed, hc, hK⟩ := hK
      rw [guard_sound F ops o hg]
      exact begin_sound H F hB o hs hd (hm d ⟨hs, hd⟩) hneed ho hc hK next Q hn
    · exact hK.elim
  · split at hK
    · rw [guard_sound F ops o hg]
      exact effect_sound H F o (fun v => v) (fun _ _ _ _ h => h) (fun _ _ h => h) hK next Q hn
    · rename_i b
      rw [guard_sound F ops o hg]
      cases b with
      | true => exact effect_sound H F o (yesV P o.type true) (fun _ _ _ _ h => yes_rel h) (fun _ _ h => yes_men h) hK next Q hn
      | false =>
        refine hn S w h _ lm _ hK H (F.put _ no_rel) (Le.refl _ _ _ _) (fun d hd _ => hd.put _ no_men)

/-- Who forgets addresses. -/
theorem men_kill {d : Nat} {v : V} : ¬ men d (killV d v) ∧ ∀ e, ¬ men e v → ¬ men e (killV d v) := by
  have hb : ∀ e, Nat.beq e d = false → e ≠ d := fun e h => by rintro rfl; rw [Nat.beq_refl] at h; cases h
  cases v with
  | lp e off =>
    simp only [killV]
    cases hx : Nat.beq e d with
    | true => exact ⟨fun f => f, fun _ _ f => f⟩
    | false => exact ⟨hb e hx, fun _ h => h⟩
  | opt b v =>
    cases v with
    | lp e off =>
      simp only [killV]
      cases hx : Nat.beq e d with
      | true => exact ⟨fun f => f, fun _ _ f => f⟩
      | false => exact ⟨fun f => hb e hx f, fun _ h => h⟩
    | opt b v => exact ⟨fun f => f, fun _ _ f => f⟩
    | _ => exact ⟨fun f => f, fun _ h => h⟩
  | _ => exact ⟨fun f => f, fun _ h => h⟩

theorem kill_rel {d : Nat} {v : V} {x : Value} (h : TmRel S w lm v x) : TmRel S w lm (killV d v) x := by
  unfold killV
  split
  · split
    · exact Rel.undef _
    · exact h
  · split
    · exact Rel.undef _
    · exact h
  · exact Rel.undef _
  · exact h

theorem kill_sound : ∀ (ds : List Nat) {fr : Fr}, FR B S w h fr lm a → FR B S w h (killAll ds fr) lm a ∧ (∀ d ∈ ds, NoLp d (killAll ds fr)) ∧ (∀ d, NoLp d fr → NoLp d (killAll ds fr))
  | [], fr, F => ⟨F, fun _ h => (by cases h), fun _ h => h⟩
  | d :: ds, fr, F => by
    have F1 : FR B S w h { fr with tm := fr.tm.map (killV d) } lm a :=
      { size := by simp [F.size]
        tm := fun i v hv => by
          simp only [List.getElem?_map, Option.map_eq_some_iff] at hv
          obtain ⟨u, hu, rfl⟩ := hv
          exact kill_rel (F.tm i u hu)
        vars := F.vars, inj := F.inj, lb := F.lb, lo := F.lo, nd := F.nd, dfs := F.dfs }
    have n1 : NoLp d { fr with tm := fr.tm.map (killV d) } := fun i v hv => by
      simp only [List.getElem?_map, Option.map_eq_some_iff] at hv
      obtain ⟨u, hu, rfl⟩ := hv
      exact men_kill.1
    have n2 : ∀ e, NoLp e fr → NoLp e { fr with tm := fr.tm.map (killV d) } := fun e he i v hv => by
      simp only [List.getElem?_map, Option.map_eq_some_iff] at hv
      obtain ⟨u, hu, rfl⟩ := hv
      exact men_kill.2 _ (he i u hu)
    obtain ⟨k1, k2, k3⟩ := kill_sound ds F1
    refine ⟨k1, fun e he => ?_, fun e he => k3 e (n2 e he)⟩
    rcases List.mem_cons.1 he with rfl | he
    · exact k3 _ n1
    · exact k2 e he

theorem begun_mem {o : Oper} {d : Nat} (hb : Begins esc o d) : ∀ {ops : List Oper}, o ∈ ops → d ∈ begun esc ops
  | [], h => by cases h
  | x :: ops, h => by
    simp only [begun]
    rcases List.mem_cons.1 h with rfl | h
    · rw [hb.1, hb.2]; simp
    · have := begun_mem hb h
      split
      · exact List.mem_cons_of_mem _ this
      · exact this

theorem nodup_tail {o : Oper} {r : List Oper} (h : nodupN (begun esc (o :: r)) = true) : nodupN (begun esc r) = true := by
  simp only [begun] at h
  split at h
  · simp only [nodupN, Bool.and_eq_true] at h; exact h.2
  · exact h

theorem nodup_head {o : Oper} {r : List Oper} {d : Nat} (h : nodupN (begun esc (o :: r)) = true) (hb : Begins esc o d) (hd : d ∈ begun esc r) : False := by
  simp only [begun, hb.1, hb.2, nodupN, Bool.and_eq_true, Bool.not_eq_true', List.any_eq_false] at h
  exact h.1 d hd (Nat.beq_refl d)

/-- What is asked of whatever stands behind a piece of code. -/
def Goal (B : Nat) (h : Heap) (S : Sim) (w : World) (K : Fr → Heap → Prop) (next : Act → World → Prop) : Prop :=
  ∀ S' w' h' fr' lm' a', K fr' h' → HR S' w' h' → FR B S' w' h' fr' lm' a' → Le (fun rb => B ≤ rb) h S w h' S' w' → next a' w'

theorem opsW_sound (ops : List Oper) (Q : Exit → Act → World → Prop) : ∀ (l : List Nat) (r : List Oper), (∀ i ∈ l, i < ops.length) → r = l.filterMap (fun i => ops[i]?) → nodupN (begun esc r) = true →
    ∀ {S w h fr lm a K}, HR S w h → FR B S w h fr lm a → B ≤ w.heap.size → (∀ o ∈ r, ∀ d, Begins esc o d → NoLp d fr) → opsW P esc ops r fr h K → Goal B h S w K (Q .normal) → wpOps P ops.toArray Q l a w
  | [], r, _, hr, _, S, w, h, fr, lm, a, K, H, F, hB, hm, hK, hg => by
    simp only [List.filterMap_nil] at hr
    subst hr
    exact hg S w h fr lm a hK H F (Le.refl _ _ _ _)
  | i :: l, r, hl, hr, hnd, S, w, h, fr, lm, a, K, H, F, hB, hm, hK, hg => by
    have hi := hl i (by simp)
    have hoi : ops[i]? = some ops[i] := List.getElem?_eq_getElem hi
    simp only [List.filterMap_cons, hoi] at hr
    subst hr
    have ho : ops.toArray[i]? = some ops[i] := by simp [hi]
    have hK : opW P esc ops ops[i] fr h fun fr' h' => opsW P esc ops (l.filterMap fun i => ops[i]?) fr' h' K := hK
    have := opW_sound H F hB ops ops[i] (fun d hd => hm _ (by simp) d hd) hK (wpOps P ops.toArray Q l) Q ?_
    · simp only [wpOps, ho]
      split
      · rename_i hw; rw [if_pos hw] at this; exact .inl this
      · rename_i hw; rw [if_neg hw] at this; exact this
    · intro S' w' h' fr' lm' a' hk H' F' L' hnl
      refine opsW_sound ops Q l _ (fun j hj => hl j (by simp [hj])) rfl (nodup_tail hnd) H' F' (Nat.le_trans hB L'.size) ?_ hk ?_
      · intro o ho d hd
        exact hnl d (hm o (by simp [ho]) d hd) (fun hb => nodup_head hnd hb (begun_mem hd ho))
      · exact fun S2 w2 h2 fr2 lm2 a2 k2 H2 F2 L2 => hg S2 w2 h2 fr2 lm2 a2 k2 H2 F2 (Le.trans H L' L2)

theorem range_filterMap (ops : List Oper) : ops = (List.range ops.toArray.size).filterMap (fun i => ops[i]?) := by
  have e : (List.range ops.length).filterMap (fun i => ops[i]?) = ops := by
    have : ∀ n, n ≤ ops.length → (List.range n).filterMap (fun i => ops[i]?) = ops.take n := by
      intro n
      induction n with
      | zero => intro _; simp
      | succ n ih =>
        intro hn
        rw [List.range_succ, List.filterMap_append, ih (by omega)]
        rw [List.take_add_one, List.getElem?_eq_getElem (by omega : n < ops.length)]
        simp [List.getElem?_eq_getElem (by omega : n < ops.length)]
    rw [this _ (Nat.le_refl _), List.take_length]
  rw [List.size_toArray]
  exact e.symm

theorem region_sound (H : HR S w h) (F : FR B S w h fr lm a) (hB : B ≤ w.heap.size) (ops : Array Oper) (id : Nat) {K : Fr → Heap → Prop} (hK : regW P esc ops.toList false fr h K) {Q : Exit → Act → World → Prop}
    (hg : Goal B h S w K (Q .normal)) : (Code.region id ops false).wp P Q a w := by
  simp only [regW] at hK
  split at hK
  · rename_i hnd
    obtain ⟨F1, n1, _⟩ := kill_sound (begun esc ops.toList) F
    refine wp_region ?_
    have := opsW_sound (P := P) (esc := esc) ops.toList Q (List.range ops.size) ops.toList (fun i hi => by simpa using hi) (range_filterMap ops.toList) hnd H F1 hB (fun o ho d hd => n1 d (begun_mem hd ho)) hK hg
    simpa using this
  · exact hK.elim
end
end Jb
end

section
/- Operations that change places: the laws of 'opW' alone, with no world in sight. -/
namespace Jb
open Go Go.RowKit

section
variable {P : Program} {esc : List Nat} {ops : List Oper}

/-! What looks at the same gives the same. -/

def Same (o : Oper) (ops : List Oper) (fr fr' : Fr) : Prop := ∀ t ∈ o.looksAt ops.toArray, fr.tm.getD t .undef = fr'.tm.getD t .undef

theorem Same.ev {o : Oper} {fr fr' : Fr} (s : Same o ops fr fr') : ∀ x ∈ o.op.operands.toList, fr.ev x = fr'.ev x := by
  intro x hx
  cases x with
  | tmp t =>
    refine s t (List.mem_append_left _ (List.mem_filterMap.2 ⟨.tmp t, hx, rfl⟩))
  | _ => rfl

theorem Same.guard {o : Oper} {fr fr' : Fr} (s : Same o ops fr fr') : guardOf ops fr o = guardOf ops fr' o := by
  unfold guardOf
  cases hg : o.guard with
  | none => rfl
  | some jw =>
    obtain ⟨j, want⟩ := jw
    simp only
    cases hj : ops[j]? with
    | none => rfl
    | some p =>
      simp only
      cases hd : p.dst with
      | none => rfl
      | some d =>
        simp only
        rw [s d (List.mem_append_right _ (by simp [hg, hj, hd]))]

theorem map_ev {l : List Operand} {ρ ρ' : Operand → V} (h : ∀ x ∈ l, ρ x = ρ' x) : l.map ρ = l.map ρ' := List.map_congr_left h

theorem Same.mapEv {o : Oper} {fr fr' : Fr} (s : Same o ops fr fr') : o.op.operands.toList.map fr.ev = o.op.operands.toList.map fr'.ev := map_ev s.ev

theorem qop_congr {op : Op} {fr fr' : Fr} {h h' : Heap} {ρ ρ' : Operand → V} (hρ : ∀ x ∈ op.operands.toList, ρ x = ρ' x)
    (hm : ∀ t x, op = .load t x → loadQ P fr h t (ρ x) = loadQ P fr' h' t (ρ x)) : qop P fr h ρ op = qop P fr' h' ρ' op := by
  have pairs : ∀ ps : List (Nat × Operand), (∀ x ∈ ps.map (·.2), ρ x = ρ' x) → (ps.map fun e => (e.1, ρ e.2)) = (ps.map fun e => (e.1, ρ' e.2)) := fun ps hp =>
    List.map_congr_left fun p hp' => by rw [hp p.2 (List.mem_map.2 ⟨p, hp', rfl⟩)]
  cases op <;> simp only [Op.operands] at hρ <;> try rfl
  case move x => simp only [qop]; rw [hρ x (by simp)]
  case assign x => simp only [qop]; rw [hρ x (by simp)]
  case build t ps => simp only [qop]; rw [pairs _ (fun x hx => hρ x (by simpa using hx))]
  case buildSlice t n ps => simp only [qop]; rw [pairs _ (fun x hx => hρ x (by simpa using hx))]
  case load t x => simp only [qop]; rw [← hρ x (by simp)]; exact hm t x rfl
  case nilCheck x => simp only [qop]; rw [hρ x (by simp)]
  case binOp op t x y t2 => simp only [qop]; rw [hρ x (by simp), hρ y (by simp)]
  case unOp op t x => simp only [qop]; rw [hρ x (by simp)]
  case convert a b x => simp only [qop]; rw [hρ x (by simp)]
  case fieldAddr a x f => simp only [qop]; rw [hρ x (by simp)]
  case indexAddr a x i => simp only [qop]; rw [hρ x (by simp), hρ i (by simp)]
  case index a x i => simp only [qop]; rw [hρ x (by simp), hρ i (by simp)]
  case field a x f => simp only [qop]; rw [hρ x (by simp)]
  case extract x i => simp only [qop]; rw [hρ x (by simp)]
  case slice t x lo hi mx =>
    simp only [qop]
    rw [hρ x (by simp)]
    have o : ∀ y : Option Operand, (∀ z, y = some z → ρ z = ρ' z) → y.map ρ = y.map ρ' := fun y hy => by
      cases y with
      | none => rfl
      | some z => simp [hy z rfl]
    rw [o lo (fun z hz => hρ z (by subst hz; simp)), o hi (fun z hz => hρ z (by subst hz; simp)), o mx (fun z hz => hρ z (by subst hz; simp))]
  case makeFunc f xs ys =>
    cases f <;> try rfl
    simp only [qop]
    rw [map_ev (fun x hx => hρ x (by simp; exact .inl (by simpa using hx))), map_ev (l := ys.toList) (fun x hx => hρ x (by simp; exact .inr (by simpa using hx)))]
  case makeInterface t x => simp only [qop]; rw [hρ x (by simp)]
  case call c =>
    obtain ⟨callee, args, ts⟩ := c
    cases callee <;> try rfl
    case builtin b =>
      have ha : args.toList.map ρ = args.toList.map ρ' := map_ev fun x hx => hρ x (by simpa [Call.operands] using hx)
      cases b <;> try rfl
      case len =>
        simp only [qop]
        split
        · rename_i t r x s h1 h2
          rw [hρ x (by have : x ∈ args.toList := by rw [h2]; simp
                       simpa [Call.operands] using this)]
        · rfl
      case min => simp only [qop]; rw [ha]
      case max => simp only [qop]; rw [ha]

/-! What an operation without an effect does to a frame. -/

inductive Tr where
  | put (d : Option Tmp) (v : V)
  | beg (d : Nat) (cs : List V)

def Tr.app : Tr → Fr → Fr
  | .put d v, fr => fr.put d v
  | .beg d cs, fr => { tm := fr.tm.set d (.lp d 0), lc := lcSet d cs fr.lc }

def Tr.slot : Tr → Option Tmp
  | .put d _ => d
  | .beg d _ => some d

def Tr.begs : Tr → Nat → Prop
  | .put _ _, _ => False
  | .beg d _, e => d = e

theorem set_getD {l : List V} {d t : Nat} {v : V} (h : d ≠ t) : (l.set d v).getD t .undef = l.getD t .undef := by
  simp [List.getD, h]

theorem Tr.tm {τ : Tr} {fr : Fr} {t : Nat} (h : τ.slot ≠ some t) : (τ.app fr).tm.getD t .undef = fr.tm.getD t .undef := by
  cases τ with
  | put d v =>
    cases d with
    | none => rfl
    | some d => exact set_getD (fun e => h (by simp [Tr.slot, e]))
  | beg d cs => exact set_getD (fun e => h (by simp [Tr.slot, e]))

theorem find_lcSet {d e : Nat} (hne : d ≠ e) (cs : List V) : ∀ (l : List (Nat × List V)), (lcSet d cs l).find? (fun x => x.1 == e) = l.find? (fun x => x.1 == e)
  | [] => by simp [lcSet, hne]
  | x :: l => by
    rcases Nat.lt_trichotomy x.1 d with a | a | a
    · rw [lcSet_gt a, List.find?_cons, List.find?_cons, find_lcSet hne cs l]
    · rw [lcSet_eq a, List.find?_cons, List.find?_cons]
      have h1 : (d == e) = false := by simpa using hne
      have h2 : (x.1 == e) = false := by rw [a]; exact h1
      simp only [h1, h2]
    · rw [lcSet_lt a, List.find?_cons]
      have h1 : (d == e) = false := by simpa using hne
      simp only [h1]

theorem var_lcSet {fr : Fr} {d e : Nat} (hne : d ≠ e) (cs : List V) (tm : List V) : Fr.var { tm := tm, lc := lcSet d cs fr.lc } e = fr.var e := by
  simp only [Fr.var, find_lcSet hne]

theorem Tr.var {τ : Tr} {fr : Fr} {e : Nat} (h : ¬ τ.begs e) : (τ.app fr).var e = fr.var e := by
  cases τ with
  | put d v => cases d <;> rfl
  | beg d cs => exact var_lcSet h cs _

/-- The two of them change places. -/
theorem Tr.comm {τ σ : Tr} (h : ∀ d, τ.slot = some d → σ.slot ≠ some d) (fr : Fr) : τ.app (σ.app fr) = σ.app (τ.app fr) := by
  have hs : ∀ {d e : Nat}, τ.slot = some d → σ.slot = some e → d ≠ e := fun h1 h2 e => h _ h1 (by rw [h2, e])
  cases τ with
  | put d v =>
    cases d with
    | none => rfl
    | some d =>
      cases σ with
      | put e u =>
        cases e with
        | none => rfl
        | some e => simp only [Tr.app, Fr.put]; rw [List.set_comm _ _ (Ne.symm (hs rfl rfl))]
      | beg e cs => simp only [Tr.app, Fr.put]; rw [List.set_comm _ _ (Ne.symm (hs rfl rfl))]
  | beg d cs =>
    cases σ with
    | put e u =>
      cases e with
      | none => rfl
      | some e => simp only [Tr.app, Fr.put]; rw [List.set_comm _ _ (Ne.symm (hs rfl rfl))]
    | beg e ds => simp only [Tr.app]; rw [List.set_comm _ _ (Ne.symm (hs rfl rfl)), lcSet_comm (hs rfl rfl)]

/-! Quiet operations. -/

def quietRes : Q → Option Bool → V → Prop
  | .ok u, g, v => v = putOpt g u
  | .chk c u, none, v => c ∧ v = u
  | .chk c u, some b, v => (b = true → c) ∧ v = .opt b u
  | .bad, some b, v => b = false ∧ v = .undef
  | .bad, none, _ => False

theorem quietW_iff {g : Option Bool} {fr : Fr} {h : Heap} {o : Oper} {K : V → Prop} : quietW P g fr h o K ↔ ∃ v, (optNeeds g (quietOps o fr) True ∧ quietRes (quietQ P fr h o) g v) ∧ K v := by
  unfold quietW
  rw [optNeeds_iff, optNeeds_iff]
  cases quietQ P fr h o <;> cases g <;> simp only [quietRes] <;> constructor
  all_goals first
    | (rintro ⟨h1, h2, h3⟩; exact ⟨_, ⟨⟨h1, trivial⟩, h2, rfl⟩, h3⟩)
    | (rintro ⟨h1, h2⟩; exact ⟨_, ⟨⟨h1, trivial⟩, rfl⟩, h2⟩)
    | (rintro ⟨v, ⟨⟨h1, _⟩, h2, rfl⟩, h3⟩; exact ⟨h1, h2, h3⟩)
    | (rintro ⟨v, ⟨⟨h1, _⟩, rfl⟩, h3⟩; exact ⟨h1, h3⟩)
    | (rintro ⟨_, h⟩; exact h.elim)
    | (rintro ⟨_, ⟨_, h⟩, _⟩; exact h.elim)

/-- An operation without an effect, and what it does. -/
def Does (P : Program) (esc : List Nat) (ops : List Oper) (o : Oper) (fr : Fr) (h : Heap) (τ : Tr) : Prop :=
  ∃ g, guardOf ops fr o = some g ∧
    ((sortOf esc o = 0 ∧ ∃ v, (optNeeds g (quietOps o fr) True ∧ quietRes (quietQ P fr h o) g v) ∧ τ = .put o.dst v) ∨
     (sortOf esc o = 1 ∧ g = none ∧ ∃ d cs c, o.dst = some d ∧ ownVar P o.op (fun x => (fr.ev x).strip) = some (cs, c) ∧ optNeeds none (o.op.operands.toList.map fr.ev) c ∧ τ = .beg d cs))

theorem sort_le (o : Oper) : sortOf esc o = 0 ∨ sortOf esc o = 1 ∨ sortOf esc o = 2 := by
  unfold sortOf
  repeat' split
  all_goals simp

theorem opW_iff {o : Oper} {fr : Fr} {h : Heap} {K : Fr → Heap → Prop} (hs : sortOf esc o ≠ 2) : opW P esc ops o fr h K ↔ ∃ τ, Does P esc ops o fr h τ ∧ K (τ.app fr) h := by
  unfold opW Does
  cases hg : guardOf ops fr o with
  | none => simp
  | some g =>
    simp only
    rcases sort_le (esc := esc) o with h0 | h0 | h0
    · rw [h0]
      simp only
      rw [quietW_iff]
      constructor
      · rintro ⟨v, hv, hK⟩
        exact ⟨.put o.dst v, ⟨g, rfl, .inl ⟨by trivial, v, hv, rfl⟩⟩, hK⟩
      · rintro ⟨τ, ⟨g', hg', ⟨_, v, hv, rfl⟩ | ⟨h1, _⟩⟩, hK⟩
        · cases hg'; exact ⟨v, hv, hK⟩
        · cases h1
    · rw [h0]
      simp only
      constructor
      · intro hK
        split at hK
        · rename_i d cs c hd ho
          rw [optNeeds_iff] at hK
          exact ⟨.beg d cs, ⟨none, rfl, .inr ⟨by trivial, rfl, d, cs, c, hd, ho, (optNeeds_iff _ _ _).2 ⟨hK.1, hK.2.1⟩, rfl⟩⟩, hK.2.2⟩
        · exact hK.elim
      · rintro ⟨τ, ⟨g', hg', ⟨h1, _⟩ | ⟨_, rfl, d, cs, c, hd, ho, hn, rfl⟩⟩, hK⟩
        · cases h1
        · cases hg'
          rw [hd, ho]
          simp only
          rw [optNeeds_iff] at hn ⊢
          exact ⟨hn.1, hn.2, hK⟩
    · exact (hs h0).elim

theorem Does.slot {o : Oper} {fr : Fr} {h : Heap} {τ : Tr} (D : Does P esc ops o fr h τ) : τ.slot = o.dst := by
  obtain ⟨g, _, ⟨_, v, _, rfl⟩ | ⟨_, _, d, cs, c, hd, _, _, rfl⟩⟩ := D
  · rfl
  · exact hd.symm

theorem Does.begs {o : Oper} {fr : Fr} {h : Heap} {τ : Tr} (D : Does P esc ops o fr h τ) {d : Nat} (hb : τ.begs d) : Begins esc o d := by
  obtain ⟨g, _, ⟨_, v, _, rfl⟩ | ⟨h1, _, d', cs, c, hd, _, _, rfl⟩⟩ := D
  · exact hb.elim
  · cases hb; exact ⟨h1, hd⟩
end
end Jb
end

section
/- Operations that change places, further. -/
namespace Jb
open Go Go.RowKit

section
variable {P : Program} {esc : List Nat} {ops : List Oper}

theorem need_mono {q : Q} {K K' : V → Prop} (h : q.need K) (m : ∀ v, K v → K' v) : q.need K' := by
  cases q with
  | ok v => exact m _ h
  | chk c v => exact ⟨h.1, m _ h.2⟩
  | bad => exact h

theorem shape1_mono {mt : Bool} {t : TypeId} {r : V} {K K' : V → Prop} (h : shape1 P mt t r K) (m : ∀ v, K v → K' v) : shape1 P mt t r K' := by
  unfold shape1 at *
  split at h
  · unfold ptrK at *
    split at h <;> first | exact m _ h | exact h
  · exact ⟨h.1, m _ h.2⟩
  · exact need_mono h m

theorem shapes_mono {mt : Bool} : ∀ {ts : List TypeId} {i : Nat} {vs : List V} {K K' : List V → Prop}, shapes P mt ts i vs K → (∀ vs, K vs → K' vs) → shapes P mt ts i vs K'
  | [], _, _, _, _, h, m => m _ h
  | _ :: _, _, _, _, _, h, m => shape1_mono h fun _ h => shapes_mono h fun _ h => m _ h

theorem shapeW_mono {mt : Bool} {t : TypeId} {r : V} {K K' : V → Prop} (h : shapeW P mt t r K) (m : ∀ v, K v → K' v) : shapeW P mt t r K' := by
  unfold shapeW at *
  split at h
  · exact ⟨h.1, shapes_mono h.2 fun _ h => m _ h⟩
  · exact shape1_mono h m

theorem AnyW.mono {f : FuncId} {args : List V} {h : Heap} {K K' : V → Heap → Prop} (c : AnyW P f args h K) (m : ∀ r h', K r h' → K' r h') : AnyW P f args h K' := by
  unfold AnyW at *
  split at c
  · exact CallW.mono c m
  · exact fun S w xs H R => by
      obtain ⟨r, x, w', h', S', a, k, b⟩ := c S w xs H R
      exact ⟨r, x, w', h', S', a, m _ _ k, b⟩

theorem appG_mono {es n m : Nat} {g : G} {h : Heap} {K K' : G → Heap → Prop} (hK : appG es n m g h K) (mo : ∀ r h', K r h' → K' r h') : appG es n m g h K' := by
  unfold appG at *
  split at hK
  · exact ⟨hK.1, mo _ _ hK.2⟩
  · split at hK
    · exact mo _ _ hK
    · exact fun s hs => mo _ _ (hK s hs)
  · exact hK

theorem appendW_mono {t t2 : TypeId} {u v : V} {h : Heap} {K K' : V → Heap → Prop} (hK : appendW P t t2 u v h K) (m : ∀ r h', K r h' → K' r h') : appendW P t t2 u v h K' := by
  unfold appendW at *
  split at hK <;> try exact hK.elim
  split at hK <;> try exact hK.elim
  split at hK <;> try exact hK.elim
  split at hK <;> try exact hK.elim
  exact ⟨hK.1, appG_mono hK.2 fun _ _ k => m _ _ k⟩

theorem appendX_mono {mt : Bool} {t t2 : TypeId} {u v : V} {h : Heap} {K K' : V → Heap → Prop} (hK : appendX P mt t t2 u v h K) (m : ∀ r h', K r h' → K' r h') : appendX P mt t t2 u v h K' := by
  cases mt with
  | false => exact appendW_mono hK m
  | true =>
    replace hK : appendM P t t2 u v h K := hK
    show appendM P t t2 u v h K'
    unfold appendM at *
    split at hK <;> try exact hK.elim
    split at hK <;> try exact hK.elim
    split at hK <;> try exact hK.elim
    split at hK <;> try exact hK.elim
    exact ⟨hK.1, hK.2.1, hK.2.2.1, fun l' off' cap' h' ha => m _ _ (hK.2.2.2 l' off' cap' h' ha)⟩

theorem storeW_mono {t : TypeId} {u v : V} {fr : Fr} {h : Heap} {K K' : Fr → Heap → Prop} (hK : storeW P t u v fr h K) (m : ∀ f h', f.tm = fr.tm → K f h' → K' f h') : storeW P t u v fr h K' := by
  unfold storeW at *
  split at hK <;> try exact hK.elim
  split at hK <;> try exact hK.elim
  split at hK
  · exact ⟨hK.1, hK.2.1, m _ _ rfl hK.2.2⟩
  · exact ⟨hK.1, hK.2.1, m _ _ rfl hK.2.2⟩
  · exact hK

theorem effW_mono {mt : Bool} {op : Op} {ty : TypeId} {ρ : Operand → V} {fr : Fr} {h : Heap} {K K' : V → Fr → Heap → Prop} (hK : effW P mt op ty ρ fr h K) (m : ∀ v f h', f.tm = fr.tm → K v f h' → K' v f h') : effW P mt op ty ρ fr h K' := by
  unfold effW at *
  split at hK
  · split at hK
    · exact fun l hl => m _ _ _ rfl (hK l hl)
    · exact hK
  · split at hK
    · exact ⟨hK.1, fun l hl => m _ _ _ rfl (hK.2 l hl)⟩
    · exact hK
  · exact storeW_mono hK fun f h' e k => m _ _ _ e k
  · split at hK
    · split at hK
      · split at hK
        · exact AnyW.mono hK fun r h' k => shapeW_mono k fun v k => m _ _ _ rfl k
        · exact hK
      · exact hK
    · split at hK
      · exact appendX_mono hK fun v h' k => m _ _ _ rfl k
      · exact hK
    · exact hK
  · exact hK

/-- What an operation leaves as it was. -/
structure Info (esc : List Nat) (o : Oper) (fr : Fr) (h : Heap) (f : Fr) (h' : Heap) : Prop where
  tm : ∀ t, o.dst ≠ some t → f.tm.getD t .undef = fr.tm.getD t .undef
  heap : sortOf esc o ≠ 2 → h' = h
  var : sortOf esc o ≠ 2 → ∀ d, ¬ Begins esc o d → f.var d = fr.var d

theorem put_getD {fr : Fr} {dst : Option Tmp} {v : V} {t : Nat} (h : dst ≠ some t) : (fr.put dst v).tm.getD t .undef = fr.tm.getD t .undef := Tr.tm (τ := .put dst v) h

theorem opW_mono {o : Oper} {fr : Fr} {h : Heap} {K K' : Fr → Heap → Prop} (hK : opW P esc ops o fr h K) (m : ∀ f h', Info esc o fr h f h' → K f h' → K' f h') : opW P esc ops o fr h K' := by
  by_cases hs : sortOf esc o = 2
  · unfold opW at *
    cases hg : guardOf ops fr o with
    | none => rw [hg] at hK; exact hK
    | some g =>
      rw [hg, hs] at hK
      rw [hs]
      simp only at hK ⊢
      have go : ∀ {m0 : V → V}, optNeeds none (o.op.operands.toList.map fr.ev) (effW P (dstIn o esc) o.op o.type (fun x => (fr.ev x).strip) fr h fun v fr' h' => K (fr'.put o.dst (m0 v)) h') →
          optNeeds none (o.op.operands.toList.map fr.ev) (effW P (dstIn o esc) o.op o.type (fun x => (fr.ev x).strip) fr h fun v fr' h' => K' (fr'.put o.dst (m0 v)) h') := fun {_} hk => by
        rw [optNeeds_iff] at hk ⊢
        exact ⟨hk.1, effW_mono hk.2 fun v f h' e k => m _ _ ⟨fun t ht => by rw [put_getD ht, e], fun c => (c hs).elim, fun c => (c hs).elim⟩ k⟩
      cases g with
      | none => exact go (m0 := fun v => v) hK
      | some b =>
        cases b with
        | true => exact go (m0 := yesV P o.type true) hK
        | false => exact m _ _ ⟨fun t ht => put_getD ht, fun c => (c hs).elim, fun c => (c hs).elim⟩ hK
  · rw [opW_iff hs] at *
    obtain ⟨τ, D, k⟩ := hK
    refine ⟨τ, D, m _ _ ⟨fun t ht => Tr.tm (by rw [D.slot]; exact ht), fun _ => rfl, fun _ d hd => Tr.var (fun hb => hd (D.begs hb))⟩ k⟩

/-! The same operation, from another frame. -/

theorem quietQ_congr {o : Oper} {fr fr' : Fr} {h h' : Heap} (s : Same o ops fr fr') (hl : ∀ t x, o.op = .load t x → loadQ P fr h t (fr.ev x).strip = loadQ P fr' h' t (fr.ev x).strip) : quietQ P fr h o = quietQ P fr' h' o := by
  have hev := s.ev
  unfold quietQ
  split
  · rename_i c a b e
    rw [e] at hev
    rw [hev c (by simp [Op.operands]), hev a (by simp [Op.operands]), hev b (by simp [Op.operands])]
  · rfl
  · exact qop_congr (fun x hx => by rw [hev x hx]) hl

theorem quietOps_congr {o : Oper} {fr fr' : Fr} (s : Same o ops fr fr') : quietOps o fr = quietOps o fr' := by
  have hev := s.ev
  unfold quietOps
  split
  · rename_i c a b e
    rw [e] at hev
    rw [hev c (by simp [Op.operands])]
  · exact map_ev hev

theorem ownVar_congr {op : Op} {ρ ρ' : Operand → V} (h : ∀ x ∈ op.operands.toList, ρ x = ρ' x) : ownVar P op ρ = ownVar P op ρ' := by
  cases op <;> try rfl
  case box t x => simp only [ownVar]; rw [h x (by simp [Op.operands])]

theorem Does.congr {o : Oper} {fr fr' : Fr} {h h' : Heap} {τ : Tr} (D : Does P esc ops o fr h τ) (s : Same o ops fr fr') (hl : ∀ t x, o.op = .load t x → loadQ P fr h t (fr.ev x).strip = loadQ P fr' h' t (fr.ev x).strip) :
    Does P esc ops o fr' h' τ := by
  obtain ⟨g, hg, hd⟩ := D
  refine ⟨g, by rw [← s.guard]; exact hg, ?_⟩
  rcases hd with ⟨h0, v, ⟨h1, h2⟩, h3⟩ | ⟨h0, h1, d, cs, c, h2, h3, h4, h5⟩
  · exact .inl ⟨h0, v, ⟨by rw [← quietOps_congr s]; exact h1, by rw [← quietQ_congr s hl]; exact h2⟩, h3⟩
  · exact .inr ⟨h0, h1, d, cs, c, h2, by rw [← h3]; exact ownVar_congr fun x hx => by rw [s.ev x hx], by rw [← s.mapEv]; exact h4, h5⟩

theorem effW_congr {mt : Bool} {op : Op} {ty : TypeId} {ρ ρ' : Operand → V} {fr : Fr} {h : Heap} {K : V → Fr → Heap → Prop} (hρ : ∀ x ∈ op.operands.toList, ρ x = ρ' x) (hK : effW P mt op ty ρ fr h K) : effW P mt op ty ρ' fr h K := by
  have : effW P mt op ty ρ fr h K = effW P mt op ty ρ' fr h K := by
    cases op <;> try rfl
    case box t x => simp only [effW]; rw [hρ x (by simp [Op.operands])]
    case store t a x => simp only [effW]; rw [hρ x (by simp [Op.operands]), hρ a (by simp [Op.operands])]
    case call c =>
      obtain ⟨callee, args, ts⟩ := c
      cases callee with
      | value f =>
        have ha : args.toList.map ρ = args.toList.map ρ' := map_ev fun x hx => hρ x (by simp [Op.operands, Call.operands]; exact .inr (by simpa using hx))
        simp only [effW]; rw [ha, hρ f (by simp [Op.operands, Call.operands])]
      | invoke a b => rfl
      | builtin b =>
        cases b <;> try rfl
        case append =>
          simp only [effW]
          split
          · rename_i t t2 r x y h1 h2
            have hx : ∀ z ∈ args.toList, ρ z = ρ' z := fun z hz => hρ z (by simpa [Op.operands, Call.operands] using hz)
            rw [hx x (by rw [h2]; simp), hx y (by rw [h2]; simp)]
          · rfl
  rw [← this]; exact hK

theorem storeW_frame {t : TypeId} {u v : V} {τ : Tr} {fr : Fr} {h : Heap} {K : Fr → Heap → Prop} (hm : ∀ d, τ.begs d → ¬ men d u) (hK : storeW P t u v (τ.app fr) h K) : storeW P t u v fr h fun f h' => K (τ.app f) h' := by
  unfold storeW at *
  split at hK <;> try exact hK.elim
  split at hK <;> try exact hK.elim
  split at hK
  · exact hK
  · rename_i d off
    have hd : ¬ τ.begs d := fun hb => hm d hb rfl
    rw [Tr.var hd] at hK
    refine ⟨hK.1, hK.2.1, ?_⟩
    have h2 := hK.2.2
    cases τ with
    | put e w => cases e <;> exact h2
    | beg e cs =>
      simp only [Tr.app] at h2 ⊢
      rw [lcSet_comm hd]
      exact h2
  · exact hK

theorem effW_frame {mt : Bool} {op : Op} {ty : TypeId} {ρ : Operand → V} {τ : Tr} {fr : Fr} {h : Heap} {K : V → Fr → Heap → Prop} (hm : ∀ d, τ.begs d → ∀ x ∈ op.operands.toList, ¬ men d (ρ x)) (hK : effW P mt op ty ρ (τ.app fr) h K) :
    effW P mt op ty ρ fr h fun v f h' => K v (τ.app f) h' := by
  cases op <;> try exact hK
  case store t a x => exact storeW_frame (K := fun f h' => K .undef f h') (fun d hd => hm d hd a (by simp [Op.operands])) hK

theorem load_frame {τ : Tr} {fr : Fr} {h : Heap} {t : TypeId} {v : V} (hm : ∀ d, τ.begs d → ¬ men d v) : loadQ P (τ.app fr) h t v = loadQ P fr h t v := by
  cases v <;> try rfl
  case lp d off => simp only [loadQ]; rw [Tr.var (fun hb => hm d hb rfl)]

/-- An operation does not see what it does not look at. -/
theorem opW_frame {o : Oper} {τ : Tr} {fr : Fr} {h : Heap} {K : Fr → Heap → Prop} (h1 : ∀ s, τ.slot = some s → s ∉ o.looksAt ops.toArray) (h2 : ∀ s, τ.slot = some s → o.dst ≠ some s)
    (hm : ∀ d, τ.begs d → ∀ x ∈ o.op.operands.toList, ¬ men d (fr.ev x)) (hK : opW P esc ops o (τ.app fr) h K) : opW P esc ops o fr h fun f h' => K (τ.app f) h' := by
  have s : Same o ops (τ.app fr) fr := fun t ht => Tr.tm (fun e => h1 t e ht)
  have hm' : ∀ d, τ.begs d → ∀ x ∈ o.op.operands.toList, ¬ men d (fr.ev x).strip := fun d hd x hx => men_strip (hm d hd x hx)
  by_cases hs : sortOf esc o = 2
  · unfold opW at *
    rw [s.guard] at hK
    cases hg : guardOf ops fr o with
    | none => rw [hg] at hK; exact hK
    | some g =>
      rw [hg, hs] at hK
      rw [hs]
      simp only at hK ⊢
      have cm : ∀ (f : Fr) (v : V), (τ.app f).put o.dst v = τ.app (f.put o.dst v) := fun f v => (Tr.comm (τ := τ) (σ := .put o.dst v) (fun d hd => by simpa [Tr.slot] using h2 d hd) f).symm
      have go : ∀ {m0 : V → V}, optNeeds none (o.op.operands.toList.map (τ.app fr).ev) (effW P (dstIn o esc) o.op o.type (fun x => ((τ.app fr).ev x).strip) (τ.app fr) h fun v fr' h' => K (fr'.put o.dst (m0 v)) h') →
          optNeeds none (o.op.operands.toList.map fr.ev) (effW P (dstIn o esc) o.op o.type (fun x => (fr.ev x).strip) fr h fun v fr' h' => K (τ.app (fr'.put o.dst (m0 v))) h') := fun {_} hk => by
        rw [s.mapEv] at hk
        rw [optNeeds_iff] at hk ⊢
        refine ⟨hk.1, ?_⟩
        have hk := effW_frame hm' (effW_congr (fun x hx => by rw [s.ev x hx]) hk.2)
        exact effW_mono hk fun v f h' _ k => by rw [← cm]; exact k
      cases g with
      | none => exact go (m0 := fun v => v) hK
      | some b =>
        cases b with
        | true => exact go (m0 := yesV P o.type true) hK
        | false => show K _ h; rw [← cm]; exact hK
  · rw [opW_iff hs] at *
    obtain ⟨σ, D, k⟩ := hK
    refine ⟨σ, D.congr s (fun t x e => ?_), ?_⟩
    · have hx : x ∈ o.op.operands.toList := by rw [e]; simp [Op.operands]
      rw [s.ev x hx]
      exact load_frame fun d hd => hm' d hd x hx
    · rw [Tr.comm (fun d hd => by rw [D.slot]; exact h2 d hd)]
      exact k
end
end Jb
end

section
/- Statements, and calls. A region with a draw is handed in as a premise: JbT proves it. -/
namespace Jb
open Go Go.RowKit

def exOf : Ex → Exit
  | .normal => .normal
  | .exit id => .exit id
  | .goto l => .goto l
  | .ret => .ret

section
variable {P : Program} {S : Sim} {w : World} {h : Heap} {lm : Nat → Option Nat} {B : Nat} {fr : Fr} {a : Act} {esc : List Nat} {cf : Cfg}

/-- Whatever way a piece of code is left. -/
def GoalX (B : Nat) (h : Heap) (S : Sim) (w : World) (K : Ex → Fr → Heap → Prop) (Q : Exit → Act → World → Prop) : Prop :=
  ∀ e S' w' h' fr' lm' a', K e fr' h' → HR S' w' h' → FR B S' w' h' fr' lm' a' → Le (fun rb => B ≤ rb) h S w h' S' w' → Q (exOf e) a' w'

theorem GoalX.step {h1 : Heap} {S1 : Sim} {w1 : World} {K : Ex → Fr → Heap → Prop} {Q : Exit → Act → World → Prop} (H : HR S w h) (g : GoalX B h S w K Q) (L : Le (fun rb => B ≤ rb) h S w h1 S1 w1) : GoalX B h1 S1 w1 K Q :=
  fun e S' w' h' fr' lm' a' k H' F' L' => g e S' w' h' fr' lm' a' k H' F' (Le.trans H L L')

/-- What a region with a draw needs. -/
def Draws (P : Program) (esc : List Nat) : Prop :=
  ∀ {S w h lm B fr a}, HR S w h → FR B S w h fr lm a → B ≤ w.heap.size → ∀ (ops : Array Oper) (id : Nat) {K : Fr → Heap → Prop}, regW P esc ops.toList true fr h K → ∀ {Q : Exit → Act → World → Prop},
    Goal B h S w K (Q .normal) → (Code.region id ops true).wp P Q a w

/-- What a loop keeps: the state behind a round. -/
def Kept (B : Nat) (h : Heap) (S : Sim) (w : World) (I : Fr → Heap → Prop) (Q : Exit → Act → World → Prop) : Exit → Act → World → Prop :=
  fun e a' w' => match e with
    | .normal => ∃ S' h' fr' lm', I fr' h' ∧ HR S' w' h' ∧ FR B S' w' h' fr' lm' a' ∧ Le (fun rb => B ≤ rb) h S w h' S' w'
    | e => Q e a' w'

theorem dropL_sub (l : List Nat) : ∀ m : List (Nat × List V), (dropL l m).Sublist m
  | [] => .slnil
  | e :: r => by
    unfold dropL
    split
    · exact (dropL_sub l r).cons e
    · exact (dropL_sub l r).cons_cons e

theorem FR.wipe (F : FR B S w h fr lm a) {l : List Nat} : FR B S w h (fr.wipe l) lm a := by
  have : ∀ (l : List Nat) {fr : Fr}, FR B S w h fr lm a → FR B S w h { fr with tm := wipeT l fr.tm } lm a := by
    intro l
    induction l with
    | nil => exact fun F => F
    | cons t l ih =>
      intro fr F
      refine ih (fr := { fr with tm := fr.tm.set t .undef })
        { size := by simp [F.size], vars := F.vars, inj := F.inj, lb := F.lb, lo := F.lo, nd := F.nd, dfs := F.dfs
          tm := fun i v hv => ?_ }
      rw [List.getElem?_set] at hv
      split at hv
      · split at hv
        · cases hv; exact Rel.undef _
        · cases hv
      · exact F.tm i v hv
  have mrel : ∀ {v : V} {x : Value}, TmRel S w lm v x → TmRel S w lm (mutV v) x := by
    intro v x hv
    unfold mutV
    split
    · rename_i es
      cases (show Rel S w (.sl es [] .full) x from hv) with
      | slnil => exact Rel.srefnil _ _ _ _
      | sl _ _ _ rb o cap xs hes hcap hg _ _ _ =>
        have : cap = 0 := hg
        subst this
        exact Rel.srefnil _ _ _ _
    · exact hv
  have that : ∀ (l : List Nat) {fr : Fr}, FR B S w h fr lm a → FR B S w h { fr with tm := mutT l fr.tm } lm a := by
    intro l
    induction l with
    | nil => exact fun F => F
    | cons t l ih =>
      intro fr F
      unfold mutT
      split
      · refine ih (fr := { fr with tm := fr.tm.set (t - 1000000) (mutV (fr.tm.getD (t - 1000000) .undef)) })
          { size := by simp [F.size], vars := F.vars, inj := F.inj, lb := F.lb, lo := F.lo, nd := F.nd, dfs := F.dfs
            tm := fun i v hv => ?_ }
        rw [List.getElem?_set] at hv
        split at hv
        · split at hv
          · rename_i hi hlt
            cases hv
            refine mrel ?_
            subst hi
            have hlt' : t - 1000000 < fr.tm.length := hlt
            have := F.tm _ _ (List.getElem?_eq_getElem hlt')
            simpa [List.getD, List.getElem?_eq_getElem hlt'] using this
          · cases hv
        · exact F.tm i v hv
      · exact ih F
  have F := that l (this l F)
  exact { size := F.size, tm := F.tm, inj := F.inj, lb := F.lb, lo := F.lo, dfs := F.dfs
          vars := fun e he => F.vars e ((dropL_sub l fr.lc).subset he)
          nd := F.nd.sublist ((dropL_sub l fr.lc).map _) }

theorem loop_sound {c : Code} (hc : ∀ {S w h lm fr a} {K : Ex → Fr → Heap → Prop} {Q : Exit → Act → World → Prop}, HR S w h → FR B S w h fr lm a → B ≤ w.heap.size → wpA P cf c fr h K → GoalX B h S w K Q → c.wp P Q a w)
    {K : Ex → Fr → Heap → Prop} {Q : Exit → Act → World → Prop} (hl : LoopI (fun fr h Q => wpA P cf c fr h Q) K fr h) :
    ∀ {S w lm a}, HR S w h → FR B S w h fr lm a → B ≤ w.heap.size → GoalX B h S w K Q → ∀ (b : Frame) (k : List Item) (cs : List Frame),
      ∃ e a' w', Q e a' w' ∧ Arrives P (lone (b.at a (.code c :: .inLoop c :: k)) cs w) b k cs e a' w' := by
  induction hl with
  | mk fr h I hb hi ih =>
    intro S w lm a H F hB g b k cs
    have hk : c.wp P (Kept B h S w I Q) a w := by
      refine hc H F hB hb ?_
      intro e S' w' h' fr' lm' a' hk H' F' L'
      cases e with
      | normal => exact ⟨S', h', fr', lm', hk, H', F', L'⟩
      | exit id => exact g (.exit id) S' w' h' fr' lm' a' hk H' F' L'
      | goto l => exact g (.goto l) S' w' h' fr' lm' a' hk H' F' L'
      | ret => exact g .ret S' w' h' fr' lm' a' hk H' F' L'
    obtain ⟨e, a₁, w₁, hq, harr⟩ := hk b (.inLoop c :: k) cs
    cases e with
    | normal =>
      obtain ⟨S', h', fr', lm', hI, H', F', L'⟩ := hq
      obtain ⟨e₂, a₂, w₂, hq₂, harr₂⟩ := ih fr' h' hI H' F' (Nat.le_trans hB L'.size) (g.step H L') b k cs
      exact ⟨e₂, a₂, w₂, hq₂, .of_steps (Steps.trans harr (.one step_inLoop)) harr₂⟩
    | exit id => exact ⟨_, a₁, w₁, hq, .pass (x := .inLoop c) rfl (fun _ _ => .inl (by simp)) harr⟩
    | goto l => exact ⟨_, a₁, w₁, hq, .pass (x := .inLoop c) rfl (fun _ _ => .inl (by simp)) harr⟩
    | ret => exact ⟨_, a₁, w₁, hq, .pass (x := .inLoop c) rfl (fun _ _ => .inl (by simp)) harr⟩
    | panic ch => exact ⟨_, a₁, w₁, hq, .pass (x := .inLoop c) rfl (fun _ _ => .inl (by simp)) harr⟩
    | outgrown => exact ⟨_, a₁, w₁, hq, .pass (x := .inLoop c) rfl (fun _ _ => .inl (by simp)) harr⟩

theorem wpA_sound (hd : Draws P cf.esc) (c : Code) : ∀ {S w h lm B fr a} {K : Ex → Fr → Heap → Prop} {Q : Exit → Act → World → Prop}, HR S w h → FR B S w h fr lm a → B ≤ w.heap.size → wpA P cf c fr h K → GoalX B h S w K Q → c.wp P Q a w := by
  induction c with
  | skip => exact fun H F hB hK g => wp_skip (g .normal _ _ _ _ _ _ hK H F (Le.refl _ _ _ _))
  | label l => exact fun H F hB hK g => wp_label (g .normal _ _ _ _ _ _ hK H F (Le.refl _ _ _ _))
  | exit id => exact fun H F hB hK g => wp_exit (g (.exit id) _ _ _ _ _ _ hK H F (Le.refl _ _ _ _))
  | ret => exact fun H F hB hK g => wp_ret (g .ret _ _ _ _ _ _ hK H F (Le.refl _ _ _ _))
  | region id ops draw =>
    intro S w h lm B fr a K Q H F hB hK g
    cases draw with
    | false => exact region_sound H F hB ops id hK (fun S' w' h' fr' lm' a' k H' F' L' => g .normal S' w' h' _ lm' a' k H' F'.wipe L')
    | true => exact hd H F hB ops id hK (fun S' w' h' fr' lm' a' k H' F' L' => g .normal S' w' h' _ lm' a' k H' F'.wipe L')
  | seq x y ihx ihy =>
    intro S w h lm B fr a K Q H F hB hK g
    refine wp_seq (ihx H F hB hK ?_)
    intro e S' w' h' fr' lm' a' hk H' F' L'
    cases e with
    | normal => exact ihy H' F' (Nat.le_trans hB L'.size) hk (g.step H L')
    | exit id => exact g (.exit id) S' w' h' fr' lm' a' hk H' F' L'
    | goto l => exact g (.goto l) S' w' h' fr' lm' a' hk H' F' L'
    | ret => exact g .ret S' w' h' fr' lm' a' hk H' F' L'
  | cond c x y ihx ihy =>
    intro S w h lm B fr a K Q H F hB hK g
    have hK : condW (fr.ev c) (wpA P cf x fr h K) (wpA P cf y fr h K) := hK
    have hv := F.ev c
    generalize fr.ev c = v at hK hv
    cases v <;> try exact hK.elim
    rename_i b
    have hv : Rel S w (.bool b) (a.eval c) := hv
    generalize hx : a.eval c = z at hv
    cases hv
    refine wp_cond (t := b) hx ?_
    cases b with
    | true => exact ihx H F hB hK g
    | false => exact ihy H F hB hK g
  | block id c ih =>
    intro S w h lm B fr a K Q H F hB hK g
    refine wp_block (ih H F hB hK ?_)
    intro e S' w' h' fr' lm' a' hk H' F' L'
    cases e with
    | normal => exact g .normal S' w' h' fr' lm' a' hk H' F' L'
    | exit i =>
      simp only [exOf, Exit.inBlock]
      simp only [blockK] at hk
      split at hk
      · rename_i hi
        rw [if_pos (Nat.eq_of_beq_eq_true hi)]
        exact g .normal S' w' h' fr' lm' a' hk H' F' L'
      · rename_i hi
        rw [if_neg (by rintro rfl; rw [Nat.beq_refl] at hi; cases hi)]
        exact g (.exit i) S' w' h' fr' lm' a' hk H' F' L'
    | goto l => exact g (.goto l) S' w' h' fr' lm' a' hk H' F' L'
    | ret => exact g .ret S' w' h' fr' lm' a' hk H' F' L'
  | loop c ih =>
    intro S w h lm B fr a K Q H F hB hK g b k cs
    obtain ⟨e, a', w', hq, harr⟩ := loop_sound (B := B) (fun {S w h lm fr a K Q} => ih) hK H F hB g b k cs
    exact ⟨e, a', w', hq, .of_steps (.one step_loop) harr⟩
  | rangeFunc f ps zs b _ _ => exact fun _ _ _ hK _ => hK.elim
  | scope c _ => exact fun _ _ _ hK _ => hK.elim
  | goto l => exact fun _ _ _ hK _ => hK.elim
  | refuse s => exact fun _ _ _ hK _ => hK.elim

/-- What a result variable gives. -/
def resRun (tmps : Array Value) : ResultVar → Sem Value
  | .tmp t => pure (tmps.getD t Go.undef)
  | .cell b t => do loadVar t (← asAddr (tmps.getD b Go.undef))

theorem result_sound (H : HR S w h) (F : FR B S w h fr lm a) (r : ResultVar) {K : V → Prop} (hK : (resultV P fr h r).need K) :
    ∃ v x, K v ∧ Rel S w v x ∧ (resRun a.tmps r).run P w = .ok x w := by
  cases r with
  | tmp t =>
    have hv := F.ev (.tmp t)
    simp only [Fr.ev, Act.eval] at hv
    simp only [resultV] at hK
    split at hK
    · exact hK.elim
    · rename_i b v hb
      rw [hb] at hv
      split at hK
      · exact hK.elim
      · exact hK.elim
      · rename_i h1 h2
        have hv1 := hv.1 hK.1
        refine ⟨_, _, hK.2, ?_, rfl⟩
        cases v <;> first | exact hv1 | exact (h1 _ _ rfl).elim | exact (h2 _ _ rfl).elim
    · rename_i h1 h2
      refine ⟨_, _, hK, ?_, rfl⟩
      generalize fr.tm.getD t .undef = v at h1 h2 hv
      cases v <;> first | exact hv | exact (h1 _ _ rfl).elim | exact (h2 _ _ rfl).elim
  | cell b t =>
    have hv := F.ev (.tmp b)
    simp only [Fr.ev, Act.eval] at hv
    simp only [resultV] at hK
    have key : ∀ u p, fr.tm.getD b .undef = u → a.tmps.getD b Go.undef = .pointer (some p) → (loadQ P fr h t u).need K → ∃ v x, K v ∧ Rel S w v x ∧ ((do loadVar t (← asAddr (a.tmps.getD b Go.undef)) : Sem Value)).run P w = .ok x w := by
      intro u p hu hp hq
      rw [hu] at hv
      have := load_sound (P := P) H F t hv
      cases hl : loadQ P fr h t u with
      | ok v => rw [hl] at this; exact this.elim
      | bad => rw [hl] at hq; exact hq.elim
      | chk c v =>
        rw [hl] at this hq
        obtain ⟨x, hx, hr⟩ := this hq.1
        rw [hp] at hx ⊢
        refine ⟨v, x, hq.2, hr, ?_⟩
        simpa [Instr.loadAt, Instr.sureAddr, asAddr] using hx
    split at hK
    · rename_i d off e
      have hv' := hv
      rw [e] at hv'
      obtain ⟨rb, _, hx⟩ := hv'
      exact key _ _ e hx hK
    · rename_i l off e
      have hv' : Rel S w (.ptr l off) (a.tmps.getD b Go.undef) := by rw [e] at hv; exact hv
      generalize hx : a.tmps.getD b Go.undef = x at hv'
      cases hv'
      exact key _ _ e hx hK
    · exact hK.elim

theorem results_sound (H : HR S w h) (F : FR B S w h fr lm a) : ∀ (rs : List ResultVar) {K : List V → Prop}, resultsW P fr h rs K →
    ∃ vs xs, K vs ∧ RelL S w vs xs ∧ (rs.mapM (resRun a.tmps)).run P w = .ok xs w
  | [], K, hK => ⟨[], [], hK, .nil, rfl⟩
  | r :: rs, K, hK => by
    obtain ⟨v, x, hK, hr, hrun⟩ := result_sound H F r hK
    obtain ⟨vs, xs, hK, hrs, hruns⟩ := results_sound H F rs hK
    refine ⟨v :: vs, x :: xs, hK, .cons hr hrs, ?_⟩
    rw [List.mapM_cons]
    simp only [Sem.run_bind, hrun, Result.andThen_ok, hruns, Sem.run_pure]

def resV : List V → V
  | [v] => v
  | vs => .tup vs

theorem answer_sound (H : HR S w h) (F : FR B S w h fr lm a) (fn : Func) {K : V → Prop} (hK : answerW P fn fr h K) : ∃ v x, K v ∧ Rel S w v x ∧ (results fn a.tmps).run P w = .ok x w := by
  obtain ⟨vs, xs, hK, hr, hrun⟩ := results_sound H F fn.results.toList hK
  have h2 : (results fn a.tmps).run P w = .ok (if h : xs.toArray.size = 1 then xs.toArray[0] else .tuple xs.toArray) w := by
    have e : results fn a.tmps = (do let vs ← fn.results.mapM (resRun a.tmps); pure (if h : vs.size = 1 then vs[0] else .tuple vs) : Sem Value) := by
      unfold results
      congr 1
    rw [e, Array.mapM_eq_mapM_toList]
    simp only [Sem.run_bind, map_eq_pure_bind, hrun, Result.andThen_ok, Sem.run_pure]
  have hK' : K (resV vs) := by
    revert hK
    match vs with
    | [] => exact id
    | [v] => exact id
    | _ :: _ :: _ => exact id
  refine ⟨_, _, hK', ?_, h2⟩
  obtain ⟨hl, hr⟩ := hr
  match vs, xs, hl, hr with
  | [], [], _, _ => exact Rel.tup [] [] rfl (by simp)
  | [v], [x], _, hr => exact hr 0 v x rfl rfl
  | u :: v :: vs, x :: y :: xs, hl, hr => exact Rel.tup _ _ hl hr

/-- Who ends a frame: its own variables are nobody's. -/
theorem Le.narrow {h' : Heap} {S' : Sim} {w' : World} (H : HR S w h) (L : Le (fun rb => w.heap.size ≤ rb) h S w h' S' w') : Le (fun _ => False) h S w h' S' w' :=
  { toExt := L.toExt, os := L.os, tape := L.tape, output := L.output, size := L.size, un := L.un, dom := L.dom, stays := L.stays
    priv := fun rb e _ hh => L.priv rb e (by have := H.lt e; omega) hh }

theorem frame0_rel (fn : Func) (args : List V) (xs : List Value) (hr : RelL S w args xs) (hn : args.length ≤ fn.ntmps) :
    FR w.heap.size S w h (frame0 fn args) (fun _ => none) { tmps := xs.toArray ++ Array.replicate (fn.ntmps - xs.toArray.size) Go.undef, defers := [] } :=
  { size := by simp [frame0, hr.1]
    tm := fun i v hv => by
      simp only [frame0] at hv
      by_cases hi : i < args.length
      · rw [List.getElem?_append_left hi] at hv
        have hx : i < xs.length := by rw [hr.1]; exact hi
        have e : (xs.toArray ++ Array.replicate (fn.ntmps - xs.toArray.size) Go.undef).getD i Go.undef = xs[i] := by
          simp [Array.getElem?_append, hx]
        simp only
        rw [e]
        exact .of_rel (hr.2 i v _ hv (List.getElem?_eq_getElem hx))
      · rw [List.getElem?_append_right (by omega), List.getElem?_replicate] at hv
        split at hv
        · cases hv; exact Rel.undef _
        · cases hv
    vars := fun _ he => by simp [frame0] at he
    inj := fun _ _ _ e => by cases e
    lb := fun _ _ e => by cases e
    lo := fun _ _ e => by cases e
    nd := by simp [frame0]
    dfs := rfl }

/-- A function whose body gives what is asked. -/
theorem call_sound (hd : Draws P cf.esc) {f : FuncId} {fn : Func} (hf : P.funcs[f]? = some fn) {args : List V} (hn : args.length ≤ fn.ntmps) {h : Heap} {K : V → Heap → Prop} (hK : bodyW P cf fn args h K) : CallW P f args h K := by
  intro S w xs H hr
  unfold bodyW at hK
  split at hK
  · exact hK.elim
  rename_i c hc
  refine calls_of_wp hf hc (wpA_sound hd c H (frame0_rel fn args xs hr hn) (Nat.le_refl _) hK ?_)
  intro e S' w' h' fr' lm' a' hk H' F' L'
  have fin : answerW P fn fr' h' (fun r => K r h') → a'.defers = [] ∧ ∃ v, (results fn a'.tmps).run P w' = .ok v w' ∧ ∃ r x h'' S'', Ending.returned v = .returned x ∧ K r h'' ∧ HR S'' w' h'' ∧ Rel S'' w' r x ∧ Le (fun _ => False) h S w h'' S'' w' := fun ha => by
    obtain ⟨v, x, hv, hrel, hrun⟩ := answer_sound H' F' fn ha
    exact ⟨F'.dfs, x, hrun, v, x, h', S', rfl, hv, H', hrel, L'.narrow H⟩
  cases e with
  | normal => exact fin hk
  | ret => exact fin hk
  | exit id => exact hk.elim
  | goto l => exact hk.elim

/-- A heap of which less is said. -/
def Heap.Sub (h' h : Heap) : Prop := ∀ l o, h' l = some o → h l = some o

theorem CallW.forget {f : FuncId} {args : List V} {h : Heap} {K K' : V → Heap → Prop} (c : CallW P f args h K) (m : ∀ r h', K r h' → ∃ h'', h''.Sub h' ∧ K' r h'') : CallW P f args h K' :=
  fun S w xs H R => (c S w xs H R).mono fun _ _ ⟨r, x, h', S', e, k, H', R', L⟩ => by
    obtain ⟨h'', hs, k'⟩ := m r h' k
    exact ⟨r, x, h'', S', e, k', ⟨fun l o hl => H'.obs l o (hs l o hl), H'.fresh⟩, R',
      { toExt := L.toExt, os := L.os, tape := L.tape, output := L.output, size := L.size, un := L.un, priv := L.priv, stays := L.stays
        dom := fun l cs hl hc => L.dom l cs hl (hs _ _ hc) }⟩
end
end Jb
end

section
/- Any order of a region's operations: the plan's other orders. -/
namespace Jb
open Go Go.RowKit

section
variable {P : Program} {esc : List Nat} {ops : List Oper}

theorem agains_iff {fr : Fr} {h : Heap} : ∀ {l : List Nat} {R : Prop}, agains P ops fr h l R ↔ (∀ r ∈ l, AgainOk P ops fr h r) ∧ R
  | [], R => by simp [agains]
  | r :: l, R => by
    simp only [agains, agains_iff (l := l), List.mem_cons, forall_eq_or_imp, and_assoc]

theorem AgainOk_iff {fr : Fr} {h : Heap} {j : Nat} {o : Oper} (ho : ops[j]? = some o) : AgainOk P ops fr h j ↔ ∃ g d, guardOf ops fr o = some g ∧ o.dst = some d ∧ quietRes (quietQ P fr h o) g (fr.tm.getD d .undef) := by
  unfold AgainOk
  rw [ho]
  simp only
  cases hg : guardOf ops fr o with
  | none => simp
  | some g =>
    cases hd : o.dst with
    | none => simp
    | some d =>
      simp only [Option.some.injEq, exists_eq_left', exists_and_left]
      cases quietQ P fr h o <;> cases g <;> simp only [quietRes]
      all_goals first
        | exact eq_comm
        | exact and_congr Iff.rfl eq_comm

theorem Does.noLp {o : Oper} {fr : Fr} {h : Heap} {τ : Tr} (D : Does P esc ops o fr h τ) {d : Nat} (n : NoLp d fr) (hb : ¬ Begins esc o d) : NoLp d (τ.app fr) := by
  obtain ⟨g, _, ⟨_, v, ⟨_, hv⟩, rfl⟩ | ⟨h0, _, d', cs, c, hd, _, _, rfl⟩⟩ := D
  · refine NoLp.put n _ ?_
    have hc := quiet_clean (P := P) (h := h) (fr := fr) o d n
    cases hq : quietQ P fr h o with
    | ok u =>
      rw [hq] at hv hc
      have hv : v = putOpt g u := by cases g <;> exact hv
      subst hv
      cases g <;> exact hc
    | chk c u =>
      rw [hq] at hv hc
      cases g with
      | none => rw [hv.2]; exact hc
      | some b => rw [hv.2]; exact hc
    | bad =>
      rw [hq] at hv
      cases g with
      | none => exact hv.elim
      | some b => rw [hv.2]; exact fun f => f
  · refine NoLp.put (fr := { fr with lc := lcSet d' cs fr.lc }) n (some d') (v := .lp d' 0) ?_
    exact fun e => hb ⟨h0, by rw [hd]; exact congrArg some e⟩

/-- Of two operations, the first ahead of the second one in a plan. -/
structure Ahead (esc : List Nat) (ops : List Oper) (x y : Oper) : Prop where
  dst : ∀ s, x.dst = some s → y.dst ≠ some s
  read : isRead x.op = true → ∀ s, y.dst = some s → s ∉ x.looksAt ops.toArray

/-- An operation that another one, behind it, need not wait for. -/
structure Free (esc : List Nat) (ops : List Oper) (rc : List Nat) (y : Oper) (i : Nat) (x : Oper) : Prop where
  quiet : sortOf esc x ≠ 2
  left : ∀ s, x.dst = some s → s ∉ y.looksAt ops.toArray
  right : ∀ s, y.dst = some s → s ∉ x.looksAt ops.toArray
  dst : ∀ s, x.dst = some s → y.dst ≠ some s
  again : sortOf esc y = 2 → isRead x.op = true → i ∈ rc
  own : isRead x.op = true → ∀ s, x.dst = some s → s ∉ x.looksAt ops.toArray

/-- What was read stands fast, whatever else is not done yet. -/
structure Firm (esc : List Nat) (ops : List Oper) (rc : List Nat) (pre : List (Nat × List Nat)) (y : Oper) (fr : Fr) (r : Nat) : Prop where
  mem : r ∈ rc
  spec : ∃ x, ops[r]? = some x ∧ (∀ s, y.dst = some s → s ∉ x.looksAt ops.toArray) ∧
    ∀ p ∈ pre, ∀ z, ops[p.1]? = some z → (∀ s, z.dst = some s → s ∉ x.looksAt ops.toArray ∧ x.dst ≠ some s) ∧ ∀ d, Begins esc z d → ∀ u ∈ x.op.operands.toList, ¬ men d (fr.ev u)

theorem read_quiet {o : Oper} (h : isRead o.op = true) : sortOf esc o = 0 := by
  obtain ⟨dst, op, type, pos, after, guard⟩ := o
  cases op <;> first | rfl | cases h

theorem same_put {o : Oper} {fr : Fr} {τ : Tr} (h : ∀ s, τ.slot = some s → s ∉ o.looksAt ops.toArray) : Same o ops (τ.app fr) fr := fun t ht => Tr.tm (fun e => h t e ht)

theorem put_long {fr : Fr} {d : Nat} {v : V} (h : fr.tm.length ≤ d) : fr.put (some d) v = fr := by
  simp only [Fr.put]
  rw [List.set_eq_of_length_le h]

theorem load_op {o : Oper} {t : TypeId} {x : Operand} (e : o.op = .load t x) : isRead o.op = true ∧ x ∈ o.op.operands.toList := by
  rw [e]; exact ⟨rfl, by simp [Op.operands]⟩

theorem front {j : Nat} {y : Oper} (hy : ops[j]? = some y) {rc : List Nat} {post : List (Nat × List Nat)} {K : Fr → Heap → Prop} :
    ∀ (pre : List (Nat × List Nat)) (fr : Fr) (h : Heap) (Rs : List Nat),
      (∀ p ∈ pre, p.2 = [] ∧ ∃ x, ops[p.1]? = some x ∧ Free esc ops rc y p.1 x) →
      pre.Pairwise (fun p q => ∀ x z, ops[p.1]? = some x → ops[q.1]? = some z → Ahead esc ops x z) →
      (∀ p ∈ pre, ∀ x, ops[p.1]? = some x → ∀ d, Begins esc x d → NoLp d fr) → (∀ d, Begins esc y d → NoLp d fr) →
      (∀ r ∈ Rs, Firm esc ops rc pre y fr r) →
      runD P esc ops (pre ++ (j, rc) :: post) fr h K → opW P esc ops y fr h fun f h' => runD P esc ops (pre ++ post) f h' K ∧ ∀ r ∈ Rs, AgainOk P ops f h' r
  | [], fr, h, Rs, _, _, _, _, hR, hK => by
    simp only [List.nil_append, runD, hy] at hK ⊢
    refine opW_mono hK fun f h' _ k => ?_
    rw [agains_iff] at k
    exact ⟨k.2, fun r hr => k.1 r (hR r hr).mem⟩
  | p :: pre, fr, h, Rs, hp, hpp, hn, hny, hR, hK => by
    obtain ⟨hp2, x, hx, F⟩ := hp p (by simp)
    obtain ⟨i, rci⟩ := p
    simp only at hp2 hx F
    subst hp2
    simp only [List.cons_append, runD, hx, agains] at hK
    rw [opW_iff F.quiet] at hK
    obtain ⟨τ, D, hK⟩ := hK
    have hslot := D.slot
    rw [List.pairwise_cons] at hpp
    have hnx : ∀ d, Begins esc x d → NoLp d fr := hn (i, []) (by simp) x hx
    have hah : ∀ q ∈ pre, ∀ z, ops[q.1]? = some z → Ahead esc ops x z := fun q hq z hz => hpp.1 q hq x z hx hz
    -- what is not begun yet
    have hn1 : ∀ q ∈ pre, ∀ z, ops[q.1]? = some z → ∀ d, Begins esc z d → NoLp d (τ.app fr) := fun q hq z hz d hd =>
      D.noLp (hn q (by simp [hq]) z hz d hd) (fun hb => (hah q hq z hz).dst d hb.2 hd.2)
    have hny1 : ∀ d, Begins esc y d → NoLp d (τ.app fr) := fun d hd => D.noLp (hny d hd) (fun hb => F.dst d hb.2 hd.2)
    have hbeg : ∀ d, τ.begs d → NoLp d fr := fun d hd => hnx d (D.begs hd)
    -- what stands fast
    have hRs : ∀ r ∈ Rs, Firm esc ops rc pre y (τ.app fr) r := fun r hr => by
      obtain ⟨hm, z, hz, h1, h2⟩ := hR r hr
      refine ⟨hm, z, hz, h1, fun q hq u hu => ?_⟩
      obtain ⟨k1, k2⟩ := h2 q (by simp [hq]) u hu
      refine ⟨k1, fun d hd v hv => ?_⟩
      have sm : Same z ops (τ.app fr) fr := same_put fun s hs => ((h2 (i, []) (by simp) x hx).1 s (by rw [← hslot]; exact hs)).1
      rw [sm.ev v hv]
      exact k2 d hd v hv
    have hX : isRead x.op = true → sortOf esc y = 2 → Firm esc ops rc pre y (τ.app fr) i := fun hr hs =>
      { mem := F.again hs hr
        spec := ⟨x, hx, F.right, fun q hq z hz => ⟨fun s hs' => ⟨(hah q hq z hz).read hr s hs', fun e => (hah q hq z hz).dst s e hs'⟩, fun d hd u hu => by
          have sm : Same x ops (τ.app fr) fr := same_put fun s hs => F.own hr s (by rw [← hslot]; exact hs)
          rw [sm.ev u hu]
          exact (hn q (by simp [hq]) z hz d hd).ev u⟩⟩ }
    -- the rest
    have step : ∀ Rs' : List Nat, (∀ r ∈ Rs, r ∈ Rs') → (∀ r ∈ Rs', Firm esc ops rc pre y (τ.app fr) r) → (isRead x.op = true → sortOf esc y = 2 → i ∈ Rs') →
        opW P esc ops y fr h fun f h' => runD P esc ops ((i, []) :: (pre ++ post)) f h' K ∧ ∀ r ∈ Rs, AgainOk P ops f h' r := by
      intro Rs' hsub hfirm hin
      have ih := front hy pre (τ.app fr) h Rs' (fun q hq => hp q (by simp [hq])) hpp.2 hn1 hny1 hfirm hK
      have ih := opW_frame (fun s hs => F.left s (by rw [← hslot]; exact hs)) (fun s hs => F.dst s (by rw [← hslot]; exact hs)) (fun d hd u hu => (hbeg d hd).ev u) ih
      refine opW_mono ih fun f h' I k => ⟨?_, fun r hr => ?_⟩
      · -- x, behind y
        have sm : Same x ops fr f := fun t ht => (I.tm t (fun e => F.right t e ht)).symm
        have key : ∃ σ, Does P esc ops x f h' σ ∧ σ.app f = τ.app f := by
          by_cases hrd : isRead x.op = true ∧ sortOf esc y = 2
          · obtain ⟨g, d, hg, hd, hq⟩ := (AgainOk_iff hx).1 (k.2 i (hin hrd.1 hrd.2))
            obtain ⟨g0, hg0, ⟨h0, v, ⟨hv1, hv2⟩, hτ⟩ | ⟨h0, _⟩⟩ := D
            · subst hτ
              have own : Same x ops ((Tr.put x.dst v).app f) f := same_put fun s hs => F.own hrd.1 s hs
              have hg' : guardOf ops f x = some g := by rw [← own.guard]; exact hg
              have hgg : g0 = g := by rw [sm.guard, hg'] at hg0; exact (Option.some.inj hg0).symm
              subst hgg
              have hq' : quietQ P ((Tr.put x.dst v).app f) h' x = quietQ P f h' x := quietQ_congr own fun t u e => by
                rw [own.ev u (load_op e).2]
                exact load_frame (τ := .put x.dst v) fun _ hb => hb.elim
              rw [hq'] at hq
              refine ⟨.put x.dst (((Tr.put x.dst v).app f).tm.getD d .undef), ⟨g0, hg', .inl ⟨h0, _, ⟨by rw [← quietOps_congr sm]; exact hv1, hq⟩, rfl⟩⟩, ?_⟩
              rw [hd]
              simp only [Tr.app]
              by_cases hl : d < f.tm.length
              · have e : (f.put (some d) v).tm.getD d .undef = v := by simp [Fr.put, List.getD, hl]
                rw [e]
              · have hl' : f.tm.length ≤ d := Nat.le_of_not_lt hl
                rw [put_long hl', put_long hl']
            · rw [read_quiet hrd.1] at h0; cases h0
          · refine ⟨τ, D.congr sm (fun t u e => ?_), rfl⟩
            obtain ⟨l1, l2⟩ := load_op e
            have hs : sortOf esc y ≠ 2 := fun c => hrd ⟨l1, c⟩
            rw [I.heap hs]
            have hm : ∀ d, Begins esc y d → ¬ men d (fr.ev u).strip := fun d hd => men_strip ((hny d hd).ev u)
            generalize (fr.ev u).strip = w at hm
            cases w <;> try rfl
            rename_i d off
            simp only [loadQ]
            rw [I.var hs d (fun hb => hm d hb rfl)]
        obtain ⟨σ, D', e⟩ := key
        simp only [runD, hx, agains]
        rw [opW_iff F.quiet]
        exact ⟨σ, D', by rw [e]; exact k.1⟩
      · -- what was read, behind y, ahead of x
        obtain ⟨hm, z, hz, h1, h2⟩ := hR r hr
        obtain ⟨k1, k2⟩ := h2 (i, []) (by simp) x hx
        obtain ⟨g, d, hg, hd, hq⟩ := (AgainOk_iff hz).1 (k.2 r (hsub r hr))
        have sz : Same z ops (τ.app f) f := same_put fun s hs => (k1 s (by rw [← hslot]; exact hs)).1
        refine (AgainOk_iff hz).2 ⟨g, d, by rw [← sz.guard]; exact hg, hd, ?_⟩
        have e1 : (τ.app f).tm.getD d .undef = f.tm.getD d .undef := Tr.tm fun e => (k1 d (by rw [← hslot]; exact e)).2 hd
        have e2 : quietQ P (τ.app f) h' z = quietQ P f h' z := quietQ_congr sz fun t u e => by
          have hu := (load_op e).2
          rw [sz.ev u hu]
          refine load_frame fun d' hb => men_strip ?_
          have e3 : f.ev u = fr.ev u := by
            have : Same z ops f fr := fun t ht => I.tm t (fun e => h1 t e ht)
            exact this.ev u hu
          rw [e3]
          exact k2 d' (D.begs hb) u hu
        rw [← e1, ← e2]
        exact hq
    by_cases hc : isRead x.op = true ∧ sortOf esc y = 2
    · exact step (i :: Rs) (fun r hr => by simp [hr]) (fun r hr => by
        rcases List.mem_cons.1 hr with rfl | hr
        · exact hX hc.1 hc.2
        · exact hRs r hr) (fun _ _ => by simp)
    · exact step Rs (fun r hr => hr) hRs (fun h1 h2 => (hc ⟨h1, h2⟩).elim)
end
end Jb
end

section
/- A region with a draw. -/
namespace Jb
open Go Go.RowKit

section
variable {P : Program} {esc : List Nat} {ops : List Oper} {anc : List (Nat × Nat)}

theorem hasN_iff {l : List Nat} {n : Nat} : hasN l n = true ↔ n ∈ l := by
  unfold hasN
  rw [List.any_eq_true]
  constructor
  · rintro ⟨x, hx, h⟩; rw [Nat.eq_of_beq_eq_true h]; exact hx
  · intro h; exact ⟨n, h, Nat.beq_refl n⟩

theorem nodupN_iff : ∀ {l : List Nat}, nodupN l = true → l.Nodup
  | [], _ => List.nodup_nil
  | a :: l, h => by
    simp only [nodupN, Bool.and_eq_true, Bool.not_eq_true'] at h
    refine List.nodup_cons.2 ⟨fun ha => ?_, nodupN_iff h.2⟩
    have h1 : l.any (Nat.beq a) = true := List.any_eq_true.2 ⟨a, ha, Nat.beq_refl a⟩
    rw [h.1] at h1; cases h1

theorem dstIn_false {o : Oper} {l : List Nat} (h : dstIn o l = false) : ∀ s, o.dst = some s → s ∉ l := by
  intro s hs hm
  unfold dstIn at h
  rw [hs] at h
  simp only at h
  rw [hasN_iff.2 hm] at h; cases h

theorem dstEq_false {x y : Oper} (h : dstEq x y = false) : ∀ s, x.dst = some s → y.dst ≠ some s := by
  intro s hx hy
  unfold dstEq at h
  rw [hx, hy] at h
  simp only at h
  rw [Nat.beq_refl] at h; cases h

theorem nb2 {n : Nat} (h : Nat.beq n 2 = false) : n ≠ 2 := by rintro rfl; cases h

theorem pair_ahead {p q : Nat × List Nat} (h : pairOk ops esc anc p q = true) : ∀ x z, ops[p.1]? = some x → ops[q.1]? = some z → Ahead esc ops x z := by
  intro x z hx hz
  unfold pairOk at h
  rw [hx, hz] at h
  simp only [Bool.and_eq_true, Bool.not_eq_true', Bool.and_eq_false_iff] at h
  obtain ⟨⟨⟨h1, h2⟩, _⟩, _⟩ := h
  exact { dst := dstEq_false h1, read := fun hr => dstIn_false (h2.resolve_left (by rw [hr]; simp)) }

theorem pair_anc {p q : Nat × List Nat} (h : pairOk ops esc anc p q = true) : (lookN anc p.1).testBit q.1 = false := by
  unfold pairOk at h
  split at h
  · simp only [Bool.and_eq_true, Bool.not_eq_true'] at h
    exact h.1.2
  · cases h

theorem pair_free {p q : Nat × List Nat} {x z : Oper} (hx : ops[p.1]? = some x) (hz : ops[q.1]? = some z) (h : pairOk ops esc anc p q = true) (ho : oneOk ops esc anc p = true) (ha : (lookN anc q.1).testBit p.1 = false) :
    p.2 = [] ∧ Free esc ops q.2 z p.1 x := by
  have hah := pair_ahead h x z hx hz
  unfold pairOk at h
  unfold oneOk at ho
  rw [hx] at h ho
  rw [hz] at h
  simp only [Bool.and_eq_true, Bool.not_eq_true', Bool.or_eq_true, ha, Bool.false_eq_true, false_or, Bool.and_eq_false_iff] at h ho
  obtain ⟨_, ⟨⟨h1, h2⟩, h3⟩, h4⟩ := h
  obtain ⟨⟨⟨_, _⟩, g2⟩, g3⟩ := ho
  have hq := nb2 h1
  refine ⟨?_, { quiet := hq, left := dstIn_false h2, right := dstIn_false h3, dst := hah.dst, again := fun hs hr => ?_, own := fun hr => dstIn_false (g2.resolve_left (by rw [hr]; simp)) }⟩
  · rw [h1] at g3
    simpa using g3
  · rw [hs, hr] at h4
    simp only [Nat.beq_refl, Bool.true_eq_false, false_or] at h4
    exact hasN_iff.1 h4

theorem one_anc {p : Nat × List Nat} (h : oneOk ops esc anc p = true) : (lookN anc p.1).testBit p.1 = false := by
  unfold oneOk at h
  split at h
  · simp only [Bool.and_eq_true, Bool.not_eq_true'] at h
    exact h.1.1.1
  · cases h

theorem one_op {p : Nat × List Nat} (h : oneOk ops esc anc p = true) : ∃ x, ops[p.1]? = some x := by
  unfold oneOk at h
  split at h
  · rename_i x hx; exact ⟨x, hx⟩
  · cases h

theorem fold_bit (l : List Nat) (i : Nat) : (l.foldr (fun j m => (m ||| lookN anc j) ||| (1 <<< j)) 0).testBit i = true ↔ ∃ j ∈ l, i = j ∨ (lookN anc j).testBit i = true := by
  induction l with
  | nil => simp
  | cons j l ih =>
    rw [List.foldr_cons, Nat.testBit_or, Nat.testBit_or, Bool.or_eq_true, Bool.or_eq_true, ih]
    have : (1 <<< j).testBit i = true ↔ i = j := by
      rw [Nat.shiftLeft_eq, Nat.one_mul, Nat.testBit_two_pow]
      simp [eq_comm]
    rw [this]
    simp only [List.mem_cons, exists_eq_or_imp]
    constructor
    · rintro ((h | h) | h)
      · exact .inr h
      · exact .inl (.inr h)
      · exact .inl (.inl h)
    · rintro ((h | h) | h)
      · exact .inr h
      · exact .inl (.inr h)
      · exact .inl (.inl h)

theorem anc_iff (h : ancOk ops anc = true) {i : Nat} {o : Oper} (ho : ops[i]? = some o) (q : Nat) : (lookN anc i).testBit q = true ↔ ∃ j ∈ bindsOf o, q = j ∨ (lookN anc j).testBit q = true := by
  unfold ancOk at h
  rw [List.all_eq_true] at h
  have := h i (List.mem_range.2 (List.getElem?_eq_some_iff.1 ho).1)
  rw [ho] at this
  simp only at this
  rw [Nat.eq_of_beq_eq_true this]
  exact fold_bit _ _

theorem pairs_iff : ∀ {l : List (Nat × List Nat)}, pairsOk ops esc anc l = true → l.Pairwise (fun p q => pairOk ops esc anc p q = true)
  | [], _ => .nil
  | p :: l, h => by
    simp only [pairsOk, Bool.and_eq_true, List.all_eq_true] at h
    exact .cons h.1 (pairs_iff h.2)

/-- What of a plan is still to do, against what is done. -/
structure Open (ops : List Oper) (esc : List Nat) (anc : List (Nat × Nat)) (l : List (Nat × List Nat)) (listed : Array Bool) : Prop where
  mem : ∀ i, i < ops.length → (listed.getD i true = false ↔ i ∈ l.map (·.1))
  size : listed.size = ops.length
  closed : ∀ i q, listed.getD i false = true → (lookN anc i).testBit q = true → listed.getD q false = true
  nodup : (l.map (·.1)).Nodup
  one : ∀ p ∈ l, oneOk ops esc anc p = true
  pairs : l.Pairwise (fun p q => pairOk ops esc anc p q = true)

theorem getD_both {listed : Array Bool} {i : Nat} (h : listed.getD i false = true) : listed.getD i true = true := by
  rcases Nat.lt_or_ge i listed.size with h' | h'
  · simp [h'] at h ⊢; exact h
  · simp [Array.getElem?_eq_none h']

theorem getD_back {listed : Array Bool} {i : Nat} (hi : i < listed.size) (h : listed.getD i true ≠ false) : listed.getD i false = true := by
  simp [hi] at h ⊢; exact h

theorem binds_mem {o : Oper} {j : Nat} : j ∈ bindsOf o ↔ ∃ e ∈ o.after, Region.binds .any e = true ∧ e.on = j := by
  unfold bindsOf
  simp only [List.mem_map, List.mem_filter, Array.mem_toList_iff]
  constructor
  · rintro ⟨e, ⟨h1, h2⟩, h3⟩; exact ⟨e, h1, h2, h3⟩
  · rintro ⟨e, h1, h2, h3⟩; exact ⟨e, ⟨h1, h2⟩, h3⟩

section
variable {l : List (Nat × List Nat)} {listed : Array Bool}

/-- Who may go now has nobody left to wait for. -/
theorem Open.ready_anc (G : Open ops esc anc l listed) (hanc : ancOk ops anc = true) {i : Nat} (hi : i ∈ Region.ready .any ops.toArray listed) {q : Nat} (hq : (lookN anc i).testBit q = true) : listed.getD q false = true := by
  obtain ⟨_, o, ho, hall⟩ := mem_ready.1 hi
  have ho' : ops[i]? = some o := by simpa using ho
  obtain ⟨j, hj, h⟩ := (anc_iff hanc ho' q).1 hq
  obtain ⟨e, he, hb, rfl⟩ := binds_mem.1 hj
  have hl := hall e he hb
  rcases h with rfl | h
  · exact hl
  · exact G.closed _ _ hl h

theorem Open.ready_mem (G : Open ops esc anc l listed) {i : Nat} (hi : i ∈ Region.ready .any ops.toArray listed) : i ∈ l.map (·.1) ∧ i < ops.length := by
  obtain ⟨h0, o, ho, _⟩ := mem_ready.1 hi
  have hlt : i < ops.length := by
    have ho' : ops[i]? = some o := by simpa using ho
    exact (List.getElem?_eq_some_iff.1 ho').1
  exact ⟨(G.mem i hlt).1 h0, hlt⟩

/-- The first of a plan may go. -/
theorem Open.head_ready {p : Nat × List Nat} (G : Open ops esc anc (p :: l) listed) (hanc : ancOk ops anc = true) (hlen : ∀ (i : Nat) (o : Oper) (j : Nat), ops[i]? = some o → j ∈ bindsOf o → j < ops.length) : p.1 ∈ Region.ready .any ops.toArray listed := by
  obtain ⟨x, hx⟩ := one_op (G.one p (by simp))
  have hlt := (List.getElem?_eq_some_iff.1 hx).1
  refine mem_ready.2 ⟨(G.mem _ hlt).2 (by simp), x, by simpa using hx, fun e he hb => ?_⟩
  have hj : e.on ∈ bindsOf x := binds_mem.2 ⟨e, he, hb, rfl⟩
  have hbit : (lookN anc p.1).testBit e.on = true := (anc_iff hanc hx _).2 ⟨_, hj, .inl rfl⟩
  have hjl := hlen _ _ _ hx hj
  refine getD_back (by rw [G.size]; exact hjl) fun hc => ?_
  have hm := (G.mem _ hjl).1 hc
  obtain ⟨q, hq, he⟩ := List.mem_map.1 hm
  rcases List.mem_cons.1 hq with rfl | hq
  · have := one_anc (G.one q (by simp))
    rw [he] at this
    rw [he] at hbit
    rw [this] at hbit; cases hbit
  · have := pair_anc (List.rel_of_pairwise_cons G.pairs hq)
    rw [he, hbit] at this; cases this

theorem Open.step {pre post : List (Nat × List Nat)} {p : Nat × List Nat} (G : Open ops esc anc (pre ++ p :: post) listed) (hanc : ancOk ops anc = true) (hr : p.1 ∈ Region.ready .any ops.toArray listed) :
    Open ops esc anc (pre ++ post) (listed.setIfInBounds p.1 true) := by
  have hnd := G.nodup
  have hsub : (pre ++ post).Sublist (pre ++ p :: post) := List.Sublist.append_left (List.sublist_cons_self _ _) _
  have hplt := (G.ready_mem hr).2
  refine { size := by simp [G.size], nodup := hnd.sublist (hsub.map _), one := fun q hq => G.one q (hsub.subset hq), pairs := G.pairs.sublist hsub, mem := fun i hi => ?_, closed := fun i q hi hq => ?_ }
  · by_cases he : p.1 = i
    · subst he
      have h1 : (listed.setIfInBounds p.1 true).getD p.1 true = true := by simp [Array.getElem?_setIfInBounds, G.size, hi]
      rw [h1]
      simp only [Bool.true_eq_false, false_iff]
      intro hm
      rw [List.map_append, List.map_cons] at hnd
      rw [List.map_append] at hm
      rw [List.nodup_append] at hnd
      obtain ⟨h1, h2, h3⟩ := hnd
      rcases List.mem_append.1 hm with hm | hm
      · exact h3 _ hm _ (by simp) rfl
      · exact (List.nodup_cons.1 h2).1 hm
    · rw [getD_set_ne true he, G.mem i hi]
      simp only [List.map_append, List.map_cons, List.mem_append, List.mem_cons]
      constructor
      · rintro (h | h | h)
        · exact .inl h
        · exact (he h.symm).elim
        · exact .inr h
      · rintro (h | h)
        · exact .inl h
        · exact .inr (.inr h)
  · by_cases he : p.1 = i
    · subst he
      exact getD_set_true (G.ready_anc hanc hr hq)
    · rw [getD_set_ne false he] at hi
      exact getD_set_true (G.closed i q hi hq)
end

variable {S : Sim} {w : World} {h : Heap} {lm : Nat → Option Nat} {B : Nat} {fr : Fr} {a : Act}

theorem any_sound (hanc : ancOk ops anc = true) (hlen : ∀ (i : Nat) (o : Oper) (j : Nat), ops[i]? = some o → j ∈ bindsOf o → j < ops.length) {K : Fr → Heap → Prop} {Q : Exit → Act → World → Prop} :
    ∀ (l : List (Nat × List Nat)) {S w h fr lm a} (listed : Array Bool), Open ops esc anc l listed → HR S w h → FR B S w h fr lm a → B ≤ w.heap.size →
      (∀ p ∈ l, ∀ o, ops[p.1]? = some o → ∀ d, Begins esc o d → NoLp d fr) → runD P esc ops l fr h K → Goal B h S w K (Q .normal) → wpAny P .any ops.toArray Q l.length listed a w := by
  intro l
  induction hn : l.length generalizing l with
  | zero =>
    intro S w h fr lm a listed G H F hB _ hK hg
    have : l = [] := List.length_eq_zero_iff.1 hn
    subst this
    refine ⟨?_, hg S w h fr lm a hK H F (Le.refl _ _ _ _)⟩
    refine List.eq_nil_iff_forall_not_mem.2 fun i hi => ?_
    have := (G.ready_mem hi).1
    simp at this
  | succ n ih =>
    intro S w h fr lm a listed G H F hB hm hK hg
    refine ⟨fun hr => ?_, fun i hi => ?_⟩
    · cases l with
      | nil => simp at hn
      | cons p l =>
        have := G.head_ready hanc hlen
        rw [hr] at this
        cases this
    · obtain ⟨p, hp, he⟩ := List.mem_map.1 (G.ready_mem hi).1
      subst he
      obtain ⟨pre, post, rfl⟩ := List.append_of_mem hp
      obtain ⟨y, hy⟩ := one_op (G.one p (by simp))
      have hpairs := List.pairwise_append.1 G.pairs
      have hah : ∀ q ∈ pre ++ post, ∀ z, ops[q.1]? = some z → ∀ s, y.dst = some s → z.dst ≠ some s := fun q hq z hz s hs hz' => by
        rcases List.mem_append.1 hq with hq | hq
        · exact (pair_ahead (hpairs.2.2 q hq p (by simp)) z y hz hy).dst s hz' hs
        · exact (pair_ahead (List.rel_of_pairwise_cons hpairs.2.1 hq) y z hy hz).dst s hs hz'
      have hfr : ∀ q ∈ pre, q.2 = [] ∧ ∃ x, ops[q.1]? = some x ∧ Free esc ops p.2 y q.1 x := fun q hq => by
        obtain ⟨x, hx⟩ := one_op (G.one q (by simp [hq]))
        have hunl : (lookN anc p.1).testBit q.1 = false := by
          cases hb : (lookN anc p.1).testBit q.1 with
          | false => rfl
          | true =>
            have h1 := getD_both (G.ready_anc hanc hi hb)
            have h2 := (G.mem q.1 (List.getElem?_eq_some_iff.1 hx).1).2 (List.mem_map.2 ⟨q, by simp [hq], rfl⟩)
            rw [h1] at h2; cases h2
        obtain ⟨k1, k2⟩ := pair_free hx hy (hpairs.2.2 q hq p (by simp)) (G.one q (by simp [hq])) hunl
        exact ⟨k1, x, hx, k2⟩
      have hK' := front hy pre fr h [] hfr (hpairs.1.imp fun {a b} k x z hx hz => pair_ahead k x z hx hz) (fun q hq x hx d hd => hm q (by simp [hq]) x hx d hd) (fun d hd => hm p (by simp) y hy d hd) (fun _ hr => by cases hr) hK
      have hK2 : opW P esc ops y fr h fun f h' => runD P esc ops (pre ++ post) f h' K := opW_mono hK' fun _ _ _ k => k.1
      have hl : (pre ++ post).length = n := by simp at hn ⊢; omega
      have := opW_sound H F hB ops y (fun d hd => hm p (by simp) y hy d hd) hK2 (wpAny P .any ops.toArray Q n (listed.setIfInBounds p.1 true)) Q ?_
      · have hy' : ops.toArray[p.1]? = some y := by simpa using hy
        unfold wpOp
        rw [hy']
        simp only
        split
        · rename_i hw; rw [if_pos hw] at this; exact .inl this
        · rename_i hw; rw [if_neg hw] at this; exact this
      · intro S' w' h' fr' lm' a' hk H' F' L' hnl
        refine ih (pre ++ post) hl _ (G.step hanc hi) H' F' (Nat.le_trans hB L'.size) (fun q hq z hz d hd => ?_) hk ?_
        · refine hnl d (hm q ?_ z hz d hd) (fun hb => hah q hq z hz d hb.2 hd.2)
          rcases List.mem_append.1 hq with hq | hq
          · simp [hq]
          · simp [hq]
        · exact fun S2 w2 h2 fr2 lm2 a2 k2 H2 F2 L2 => hg S2 w2 h2 fr2 lm2 a2 k2 H2 F2 (Le.trans H L' L2)

/-- Every region with a draw of which 'regW' holds. -/
theorem draws_sound (hmix : P.follows .mixedOrders = true) : Draws P esc := by
  intro S w h lm B fr a H F hB ops id K hK Q hg
  simp only [regW] at hK
  split at hK
  · rename_i plan hplan
    unfold regPlan at hplan
    simp only at hplan
    split at hplan
    · rename_i hok
      cases hplan
      generalize hanc0 : ancOf (ops.toList.map bindsOf) (asap ((ops.toList.map bindsOf).map maskOf) (ops.toList.map (sortOf esc)) ops.toList.length 0) [] = anc at hok hK
      generalize planOf ops.toList (ops.toList.map (sortOf esc)) anc (asap ((ops.toList.map bindsOf).map maskOf) (ops.toList.map (sortOf esc)) ops.toList.length 0) [] = plan at hok hK
      unfold planOk at hok
      simp only [Bool.and_eq_true] at hok
      obtain ⟨⟨⟨⟨⟨⟨⟨c1, c2⟩, c3⟩, c4⟩, c5⟩, c6⟩, c7⟩, c8⟩ := hok
      have hlen : plan.length = ops.toList.length := Nat.eq_of_beq_eq_true c1
      have hnd := nodupN_iff c2
      have hone : ∀ p ∈ plan, oneOk ops.toList esc anc p = true := fun p hp => List.all_eq_true.1 c5 p hp
      have hin : ∀ p ∈ plan, p.1 < ops.toList.length := fun p hp => by
        obtain ⟨x, hx⟩ := one_op (hone p hp)
        exact (List.getElem?_eq_some_iff.1 hx).1
      have hall : ∀ i, i < ops.toList.length → i ∈ plan.map (·.1) := fun i hi => hasN_iff.1 (List.all_eq_true.1 c8 i (List.mem_range.2 hi))
      have hb : ∀ (i : Nat) (o : Oper) (j : Nat), ops.toList[i]? = some o → j ∈ bindsOf o → j < ops.toList.length := fun i o j ho hj => by
        have := List.all_eq_true.1 (List.all_eq_true.1 c7 o (List.mem_of_getElem? ho)) j hj
        exact Nat.le_of_ble_eq_true this
      have G : Open ops.toList esc anc plan (Array.replicate ops.size false) :=
        { size := by simp, nodup := hnd, one := hone, pairs := pairs_iff c6
          mem := fun i hi => by
            have hi' : i < ops.size := by simpa using hi
            have e : (Array.replicate ops.size false).getD i true = false := by simp [hi']
            rw [e]
            simp only [true_iff]
            exact hall i hi
          closed := fun i q hi => by
            by_cases hi' : i < ops.size
            · simp [hi'] at hi
            · simp [hi'] at hi }
      obtain ⟨F1, n1, _⟩ := kill_sound (begun esc ops.toList) F
      have bl : Below w.heap.size w { w with drawn := w.drawn + 1 } := ⟨rfl, rfl, rfl, Nat.le_refl _, fun _ _ => rfl⟩
      refine wp_region_any hmix ?_
      have hsz : ops.size = plan.length := by rw [hlen]; simp
      have := any_sound (P := P) (esc := esc) (B := B) (Q := Q) c4 hb plan (Array.replicate ops.size false) G (H.below bl) (F1.below H bl) hB
        (fun p _ o ho d hd => n1 d (begun_mem hd (List.mem_of_getElem? ho))) hK
        (fun S' w' h' fr' lm' a' k H' F' L' => hg S' w' h' fr' lm' a' k H' F' (Le.trans H ((Le.below _ H bl)) L'))
      rw [hsz]
      rw [← hsz] at this ⊢
      simpa using this
    · cases hplan
  · exact hK.elim
end
end Jb
end

section
/- What the library is used by. -/
namespace Jb
open Go

/-- A function whose body gives what is asked: the way in. -/
theorem CallW.body {P : Program} (hmix : P.follows .mixedOrders = true) (cf : Cfg) {f : FuncId} {fn : Func} (hf : P.funcs[f]? = some fn) {args : List V} (hn : args.length ≤ fn.ntmps) {h : Heap} {K : V → Heap → Prop}
    (hK : bodyW P cf fn args h K) : CallW P f args h K :=
  call_sound (draws_sound hmix) hf hn hK

theorem AnyW.call {P : Program} {f : FuncId} (he : enters P f = true) {args : List V} {h : Heap} {K : V → Heap → Prop} (c : CallW P f args h K) : AnyW P f args h K := by
  unfold AnyW; rw [he]; exact c

section
variable {P : Program} {esc : List Nat} {ops : List Oper}

theorem opW_mono' {o : Oper} {fr : Fr} {h : Heap} {K K' : Fr → Heap → Prop} (hK : opW P esc ops o fr h K) (m : ∀ f h', K f h' → K' f h') : opW P esc ops o fr h K' := opW_mono hK fun f h' _ k => m f h' k

theorem opsW_mono {K K' : Fr → Heap → Prop} (m : ∀ f h', K f h' → K' f h') : ∀ {l : List Oper} {fr : Fr} {h : Heap}, opsW P esc ops l fr h K → opsW P esc ops l fr h K'
  | [], _, _, k => m _ _ k
  | _ :: _, _, _, k => opW_mono' k fun _ _ k => opsW_mono m k

theorem runD_mono {K K' : Fr → Heap → Prop} (m : ∀ f h', K f h' → K' f h') : ∀ {l : List (Nat × List Nat)} {fr : Fr} {h : Heap}, runD P esc ops l fr h K → runD P esc ops l fr h K'
  | [], _, _, k => m _ _ k
  | (i, rc) :: l, fr, h, k => by
    simp only [runD] at k ⊢
    split at k
    · exact k
    · refine opW_mono' k fun f h' k => ?_
      rw [agains_iff] at k ⊢
      exact ⟨k.1, runD_mono m k.2⟩

theorem regW_mono {draw : Bool} {fr : Fr} {h : Heap} {K K' : Fr → Heap → Prop} (m : ∀ f h', K f h' → K' f h') (k : regW P esc ops draw fr h K) : regW P esc ops draw fr h K' := by
  unfold regW at *
  split at k
  · split at k
    · exact opsW_mono m k
    · exact k
  · split at k
    · exact runD_mono m k
    · exact k

theorem seqK_mono {y y' : Fr → Heap → Prop} {Q Q' : Ex → Fr → Heap → Prop} (hy : ∀ f h, y f h → y' f h) (m : ∀ e f h', Q e f h' → Q' e f h') : ∀ e f h', seqK y Q e f h' → seqK y' Q' e f h' := by
  intro e f h' k
  cases e with
  | normal => exact hy _ _ k
  | exit i => exact m _ _ _ k
  | goto i => exact m _ _ _ k
  | ret => exact m _ _ _ k

theorem blockK_mono {id : Nat} {Q Q' : Ex → Fr → Heap → Prop} (m : ∀ e f h', Q e f h' → Q' e f h') : ∀ e f h', blockK id Q e f h' → blockK id Q' e f h' := by
  intro e f h' k
  cases e with
  | normal => exact m _ _ _ k
  | exit i =>
    simp only [blockK] at k ⊢
    split at k
    · exact m _ _ _ k
    · exact m _ _ _ k
  | goto i => exact m _ _ _ k
  | ret => exact m _ _ _ k

theorem LoopI.mono {B : Fr → Heap → (Ex → Fr → Heap → Prop) → Prop} (hB : ∀ {fr h Q Q'}, (∀ e f h', Q e f h' → Q' e f h') → B fr h Q → B fr h Q') {Q Q' : Ex → Fr → Heap → Prop} (m : ∀ e f h', Q e f h' → Q' e f h') {fr : Fr} {h : Heap}
    (k : LoopI B Q fr h) : LoopI B Q' fr h := by
  induction k with
  | mk fr h I hb hi ih => exact .mk fr h I (hB (seqK_mono (fun _ _ k => k) m) hb) ih

theorem wpA_mono {cf : Cfg} (c : Code) : ∀ {fr : Fr} {h : Heap} {Q Q' : Ex → Fr → Heap → Prop}, (∀ e f h', Q e f h' → Q' e f h') → wpA P cf c fr h Q → wpA P cf c fr h Q' := by
  induction c with
  | skip => exact fun m k => m _ _ _ k
  | label l => exact fun m k => m _ _ _ k
  | exit id => exact fun m k => m _ _ _ k
  | ret => exact fun m k => m _ _ _ k
  | region id ops draw => exact fun m k => regW_mono (fun f h' k => m _ _ h' k) k
  | seq x y ihx ihy => exact fun m k => ihx (seqK_mono (fun _ _ k => ihy m k) m) k
  | cond c x y ihx ihy =>
    intro fr h Q Q' m k
    have k : condW (fr.ev c) (wpA P cf x fr h Q) (wpA P cf y fr h Q) := k
    show condW (fr.ev c) (wpA P cf x fr h Q') (wpA P cf y fr h Q')
    generalize fr.ev c = v at k
    cases v <;> try exact k.elim
    rename_i b
    cases b with
    | true => exact ihx m k
    | false => exact ihy m k
  | block id c ih => exact fun m k => ih (blockK_mono m) k
  | loop c ih =>
    intro fr h Q Q' m k
    exact LoopI.mono (B := fun fr h Q => wpA P cf c fr h Q) (fun m k => ih m k) m k
  | rangeFunc f ps zs b _ _ => exact fun _ k => k.elim
  | scope c _ => exact fun _ k => k.elim
  | goto l => exact fun _ k => k.elim
  | refuse s => exact fun _ k => k.elim

/-- A statement cut in two: what holds between. -/
theorem wpA_cut {cf : Cfg} {a b : Code} {fr : Fr} {h : Heap} {Q : Ex → Fr → Heap → Prop} (I : Fr → Heap → Prop)
    (ha : wpA P cf a fr h (seqK I Q)) (hb : ∀ f h', I f h' → wpA P cf b f h' Q) : wpA P cf (.seq a b) fr h Q :=
  wpA_mono a (seqK_mono hb (fun _ _ _ k => k)) ha

/-- A loop of which the frames at the head have a state each. 'Inv' is what holds of the states; 'm' what gets less. -/
theorem loop_of {B : Fr → Heap → (Ex → Fr → Heap → Prop) → Prop} {Q : Ex → Fr → Heap → Prop} {σ : Type} (mk : σ → Fr) (hp : σ → Heap) (m : σ → Nat) (Inv : σ → Prop)
    (round : ∀ s, Inv s → B (mk s) (hp s) (seqK (fun f h' => ∃ s', f = mk s' ∧ h' = hp s' ∧ Inv s' ∧ m s' < m s) Q)) :
    ∀ s, Inv s → LoopI B Q (mk s) (hp s) := by
  intro s
  induction hk : m s using Nat.strongRecOn generalizing s with
  | _ k ih =>
    intro hI
    refine .mk _ _ (fun f h' => ∃ s', f = mk s' ∧ h' = hp s' ∧ Inv s' ∧ m s' < m s) (round s hI) ?_
    rintro f h' ⟨s', rfl, rfl, hI', hlt⟩
    exact ih (m s') (by omega) s' rfl hI'

/-- ... at a statement. -/
theorem wpA_loop {P : Program} {cf : Cfg} {c : Code} {fr : Fr} {h : Heap} {Q : Ex → Fr → Heap → Prop} {σ : Type} (mk : σ → Fr) (hp : σ → Heap) (m : σ → Nat) (Inv : σ → Prop) (s : σ) (e1 : fr = mk s) (e2 : h = hp s) (hI : Inv s)
    (round : ∀ s, Inv s → wpA P cf c (mk s) (hp s) (seqK (fun f h' => ∃ s', f = mk s' ∧ h' = hp s' ∧ Inv s' ∧ m s' < m s) Q)) : wpA P cf (.loop c) fr h Q := by
  subst e1 e2
  exact loop_of mk hp m Inv round s hI

/-- A piece of code, by the way to it. -/
def codeAt : List Nat → Code → Code
  | [], c => c
  | 0 :: p, .seq a _ => codeAt p a
  | _ :: p, .seq _ b => codeAt p b
  | 0 :: p, .cond _ a _ => codeAt p a
  | _ :: p, .cond _ _ b => codeAt p b
  | _ :: p, .block _ b => codeAt p b
  | _ :: p, .loop b => codeAt p b
  | _ :: p, .scope b => codeAt p b
  | _, c => c

/-- Another piece of code there. -/
def plug : List Nat → Code → Code → Code
  | [], _, x => x
  | 0 :: p, .seq a b, x => .seq (plug p a x) b
  | _ :: p, .seq a b, x => .seq a (plug p b x)
  | 0 :: p, .cond c a b, x => .cond c (plug p a x) b
  | _ :: p, .cond c a b, x => .cond c a (plug p b x)
  | _ :: p, .block i b, x => .block i (plug p b x)
  | _ :: p, .loop b, x => .loop (plug p b x)
  | _ :: p, .scope b, x => .scope (plug p b x)
  | _, c, _ => c

/-- A piece of code that is not looked into. -/
noncomputable def hide (c : Code) : Code := (Classical.choice (⟨⟨c, rfl⟩⟩ : Nonempty { x : Code // x = c })).1
theorem hide_eq (c : Code) : hide c = c := (Classical.choice (⟨⟨c, rfl⟩⟩ : Nonempty { x : Code // x = c })).2
theorem wpA_at {P : Program} {cf : Cfg} {n m : Code} (e : n = m) {fr : Fr} {h : Heap} {Q : Ex → Fr → Heap → Prop} {R : Prop} (k : wpA P cf m fr h Q = R) : wpA P cf n fr h Q = R := by rw [e]; exact k

def bodyOf (fn : Func) : Code := match fn.body with | some c => c | none => .skip
end
end Jb
end

section
/- What simp needs to know. -/
namespace Jb
open Go

@[simp] theorem brW_true (T E : Prop) : brW true T E = T := rfl
@[simp] theorem brW_false (T E : Prop) : brW false T E = E := rfl
theorem brW_iff (b : Bool) (T E : Prop) : brW b T E ↔ ((b = true → T) ∧ (b = false → E)) := by cases b <;> simp
@[simp] theorem seqK_normal (y : Fr → Heap → Prop) (Q : Ex → Fr → Heap → Prop) (f : Fr) (h : Heap) : seqK y Q .normal f h = y f h := rfl
@[simp] theorem seqK_exit (y : Fr → Heap → Prop) (Q : Ex → Fr → Heap → Prop) (i : Nat) (f : Fr) (h : Heap) : seqK y Q (.exit i) f h = Q (.exit i) f h := rfl
@[simp] theorem seqK_ret (y : Fr → Heap → Prop) (Q : Ex → Fr → Heap → Prop) (f : Fr) (h : Heap) : seqK y Q .ret f h = Q .ret f h := rfl
@[simp] theorem blockK_normal (id : Nat) (Q : Ex → Fr → Heap → Prop) (f : Fr) (h : Heap) : blockK id Q .normal f h = Q .normal f h := rfl
@[simp] theorem blockK_ret (id : Nat) (Q : Ex → Fr → Heap → Prop) (f : Fr) (h : Heap) : blockK id Q .ret f h = Q .ret f h := rfl
@[simp] theorem blockK_exit (id i : Nat) (Q : Ex → Fr → Heap → Prop) (f : Fr) (h : Heap) : blockK id Q (.exit i) f h = if i = id then Q .normal f h else Q (.exit i) f h := by
  simp only [blockK]
  by_cases e : i = id
  · subst e; simp
  · have : Nat.beq i id = false := by cases hb : Nat.beq i id with | false => rfl | true => exact (e (Nat.eq_of_beq_eq_true hb)).elim
    rw [this, if_neg e]
@[simp] theorem num_int (k : IntKind) (n : Int) : V.num (.int k n) = n := rfl
@[simp] theorem flag_bool (b : Bool) : V.flag (.bool b) = b := rfl
@[simp] theorem text_str (s : ByteArray) : V.text (.str s) = s := rfl
@[simp] theorem els_sl (es : Nat) (l : List (List V)) (g : G) : V.els (.sl es l g) = l := rfl
@[simp] theorem right_sl (es : Nat) (l : List (List V)) (g : G) : V.right (.sl es l g) = g := rfl
@[simp] theorem cells_agg (cs : List V) : V.cells (.agg cs) = cs := rfl
@[simp] theorem vs_tup (cs : List V) : V.vs (.tup cs) = cs := rfl
@[simp] theorem isBool_bool (b : Bool) : V.isBool (.bool b) = true := rfl
@[simp] theorem isStr_str (b : ByteArray) : V.isStr (.str b) = true := rfl
@[simp] theorem isInt_i64 (n : Int) : V.isInt .i64 (.int .i64 n) = true := rfl
@[simp] theorem isInt_i32 (n : Int) : V.isInt .i32 (.int .i32 n) = true := rfl
@[simp] theorem isInt_i8 (n : Int) : V.isInt .i8 (.int .i8 n) = true := rfl
@[simp] theorem isInt_i16 (n : Int) : V.isInt .i16 (.int .i16 n) = true := rfl
@[simp] theorem isInt_u64 (n : Int) : V.isInt .u64 (.int .u64 n) = true := rfl
@[simp] theorem isInt_u32 (n : Int) : V.isInt .u32 (.int .u32 n) = true := rfl
@[simp] theorem isInt_u16 (n : Int) : V.isInt .u16 (.int .u16 n) = true := rfl
@[simp] theorem isInt_u8 (n : Int) : V.isInt .u8 (.int .u8 n) = true := rfl
@[simp] theorem isSl_sl (es : Nat) (l : List (List V)) (g : G) : V.isSl es (.sl es l g) = true := by simp [V.isSl]
@[simp] theorem isAgg_agg (n : Nat) (cs : List V) : V.isAgg n (.agg cs) = decide (cs.length = n) := by
  simp only [V.isAgg]
  by_cases e : cs.length = n
  · rw [e]; simp
  · have : Nat.beq cs.length n = false := by cases hb : Nat.beq cs.length n with | false => rfl | true => exact (e (Nat.eq_of_beq_eq_true hb)).elim
    simp [this, e]
@[simp] theorem isTup_tup (n : Nat) (cs : List V) : V.isTup n (.tup cs) = decide (cs.length = n) := by
  simp only [V.isTup]
  by_cases e : cs.length = n
  · rw [e]; simp
  · have : Nat.beq cs.length n = false := by cases hb : Nat.beq cs.length n with | false => rfl | true => exact (e (Nat.eq_of_beq_eq_true hb)).elim
    simp [this, e]
@[simp] theorem ptrK_ptr (l off : Nat) (A : Nat → Nat → Prop) (B : Prop) : ptrK (.ptr l off) A B = A l off := rfl
@[simp] theorem ptrK_nil (A : Nat → Nat → Prop) (B : Prop) : ptrK .nilp A B = B := rfl
@[simp] theorem appG_own (es n m s : Nat) (h : Heap) (K : G → Heap → Prop) : appG es n m (.own s) h K = (h s = some (.grow es n) ∧ K (.own s) (h.upd s (.grow es (n + m)))) := rfl
@[simp] theorem appG_full (es n m : Nat) (h : Heap) (K : G → Heap → Prop) : appG es n (m + 1) .full h K = (∀ s, h s = none → K (.own s) (h.upd s (.grow es (n + (m + 1))))) := rfl
@[simp] theorem upd_same (h : Heap) (l : Nat) (o : Ob) : h.upd l o l = some o := by simp [Heap.upd]
theorem upd_ne (h : Heap) {l x : Nat} (o : Ob) (hne : x ≠ l) : h.upd l o x = h x := by simp [Heap.upd, hne]
@[simp] theorem upd_upd (h : Heap) (l : Nat) (o o' : Ob) : (h.upd l o).upd l o' = h.upd l o' := by
  funext x; simp only [Heap.upd]; split <;> rfl
@[simp] theorem cellsAt_same (h : Heap) (l : Nat) (cs : List V) : cellsAt (h.upd l (.cells cs)) l = cs := by simp [cellsAt]
theorem cellsAt_ne (h : Heap) {l x : Nat} (o : Ob) (hne : x ≠ l) : cellsAt (h.upd l o) x = cellsAt h x := by simp [cellsAt, upd_ne h o hne]

end Jb
end

section
/- Lists of numbers as cells; ways to step. -/
namespace Jb
open Go

@[simp] theorem wpA_seq {P : Program} {g : Cfg} {a b : Code} {fr : Fr} {h : Heap} {Q : Ex → Fr → Heap → Prop} : wpA P g (.seq a b) fr h Q = wpA P g a fr h (seqK (fun fr' h' => wpA P g b fr' h' Q) Q) := rfl

/-- A row of numbers, as cells; as a slice's elements. -/
def ints (l : List Int) : List V := l.map (.int .i64)
def col (l : List Int) : List (List V) := l.map fun n => [.int .i64 n]

@[simp] theorem ints_len (l : List Int) : (ints l).length = l.length := by simp [ints]
@[simp] theorem col_len (l : List Int) : (col l).length = l.length := by simp [col]
@[simp] theorem ints_nil : ints [] = [] := rfl
@[simp] theorem col_nil : col [] = [] := rfl
@[simp] theorem ints_cons (a : Int) (l : List Int) : ints (a :: l) = .int .i64 a :: ints l := rfl
@[simp] theorem col_cons (a : Int) (l : List Int) : col (a :: l) = [.int .i64 a] :: col l := rfl
theorem ints_append (l m : List Int) : ints (l ++ m) = ints l ++ ints m := by simp [ints]
theorem col_append (l m : List Int) : col (l ++ m) = col l ++ col m := by simp [col]

/-- A number in a row; a value in a row; an element's cells. -/
def gi (l : List Int) (i : Nat) : Int := l.getD i 0
def gv (cs : List V) (i : Nat) : V := cs.getD i .undef
def ge (l : List (List V)) (i : Nat) : List V := l.getD i []
@[simp] theorem gv_zero (a : V) (l : List V) : gv (a :: l) 0 = a := rfl
@[simp] theorem gv_succ (a : V) (l : List V) (n : Nat) : gv (a :: l) (n + 1) = gv l n := rfl
@[simp] theorem ge_zero (a : List V) (l : List (List V)) : ge (a :: l) 0 = a := rfl
@[simp] theorem ge_succ (a : List V) (l : List (List V)) (n : Nat) : ge (a :: l) (n + 1) = ge l n := rfl
@[simp] theorem gi_zero (a : Int) (l : List Int) : gi (a :: l) 0 = a := rfl
@[simp] theorem gi_succ (a : Int) (l : List Int) (n : Nat) : gi (a :: l) (n + 1) = gi l n := rfl
theorem gi_lt (l : List Int) {i : Nat} (hi : i < l.length) : gi l i = l[i] := by simp [gi, List.getD, hi]
theorem gi_none (l : List Int) {i : Nat} (hi : l.length ≤ i) : gi l i = 0 := by simp [gi, List.getD, List.getElem?_eq_none hi]
theorem gi_mem (l : List Int) {i : Nat} (hi : i < l.length) : gi l i ∈ l := by rw [gi_lt l hi]; exact List.getElem_mem hi
theorem gi_set (l : List Int) (i j : Nat) (v : Int) : gi (l.set i v) j = if i = j ∧ i < l.length then v else gi l j := by
  simp only [gi, List.getD, List.getElem?_set]
  by_cases e : i = j
  · subst e
    by_cases h : i < l.length
    · simp [h]
    · simp [h, List.getElem?_eq_none (Nat.le_of_not_lt h)]
  · simp [e]
theorem gi_take (l : List Int) {i n : Nat} (hi : i < n) : gi (l.take n) i = gi l i := by simp only [gi, List.getD, List.getElem?_take, hi, if_true]
theorem gi_drop (l : List Int) (i n : Nat) : gi (l.drop n) i = gi l (n + i) := by simp only [gi, List.getD, List.getElem?_drop]
theorem gi_ext {l m : List Int} (hl : l.length = m.length) (h : ∀ i, i < l.length → gi l i = gi m i) : l = m := by
  apply List.ext_getElem hl
  intro i h1 h2
  have := h i h1
  rwa [gi_lt l h1, gi_lt m h2] at this
theorem take_next (l : List Int) {i : Nat} (hi : i < l.length) : l.take (i + 1) = l.take i ++ [gi l i] := by
  rw [List.take_add_one, gi_lt l hi]; simp [hi]

theorem ints_get (l : List Int) {i : Nat} (hi : i < l.length) : gv (ints l) i = .int .i64 (gi l i) := by
  simp [gv, gi, ints, List.getD, List.getElem?_map, List.getElem?_eq_getElem hi]
theorem col_get (l : List Int) {i : Nat} (hi : i < l.length) : ge (col l) i = [.int .i64 (gi l i)] := by
  simp [ge, gi, col, List.getD, List.getElem?_map, List.getElem?_eq_getElem hi]
@[simp] theorem ints_num (l : List Int) (i : Nat) : V.num (gv (ints l) i) = gi l i := by
  by_cases hi : i < l.length
  · rw [ints_get l hi]; rfl
  · simp [gv, gi, ints, List.getD, List.getElem?_map, List.getElem?_eq_none (Nat.le_of_not_lt hi), V.num]
@[simp] theorem ints_isInt (l : List Int) (i : Nat) : V.isInt .i64 (gv (ints l) i) = decide (i < l.length) := by
  by_cases hi : i < l.length
  · rw [ints_get l hi]; simp [hi]
  · simp [gv, ints, List.getD, List.getElem?_map, List.getElem?_eq_none (Nat.le_of_not_lt hi), V.isInt, hi]
@[simp] theorem ints_at (l : List Int) (i : Nat) (h : i < (ints l).length) : (ints l)[i] = .int .i64 (l[i]'(by simpa using h)) := by simp [ints]
theorem beq_dec (a b : Int) : (a == b) = decide (a = b) := rfl
theorem bne_dec (a b : Int) : (a != b) = !decide (a = b) := rfl
theorem ints_take (l : List Int) (n : Nat) : (ints l).take n = ints (l.take n) := by simp [ints]
theorem ints_drop (l : List Int) (n : Nat) : (ints l).drop n = ints (l.drop n) := by simp [ints]
@[simp] theorem ints_wr1 (l : List Int) (off : Nat) (n : Int) (h : off < l.length) : wrCells (ints l) off [.int .i64 n] = ints (l.set off n) := by
  simp only [wrCells, ints_take, ints_drop, List.set_eq_take_append_cons_drop, h, if_true, ints_append, ints_cons, List.length_singleton, List.append_assoc, List.singleton_append]
theorem ints_wr (l m : List Int) (off : Nat) : wrCells (ints l) off (ints m) = ints (l.take off ++ m ++ l.drop (off + m.length)) := by
  simp only [wrCells, ints_take, ints_drop, ints_append, ints_len]
theorem ints_inj {l m : List Int} : ints l = ints m ↔ l = m := by
  refine ⟨fun h => ?_, fun h => by rw [h]⟩
  have := congrArg (List.map V.num) h
  simpa [ints, List.map_map, Function.comp_def] using this

/-- The largest number that money may be; numbers that fit. -/
def Mx : Int := 4611686018427387904
def fine1 (n : Int) : Bool := decide (0 ≤ n ∧ n ≤ Mx)
theorem fine1_iff (n : Int) : fine1 n = true ↔ 0 ≤ n ∧ n ≤ 4611686018427387904 := by unfold fine1 Mx; simp
theorem fine1_no (n : Int) : fine1 n = false ↔ n < 0 ∨ 4611686018427387904 < n := by unfold fine1 Mx; simp; omega
def I64 (n : Int) : Prop := -9223372036854775808 ≤ n ∧ n ≤ 9223372036854775807

theorem AnyW.of {P : Program} {f : FuncId} (he : enters P f = true) {args : List V} {h : Heap} {K0 K : V → Heap → Prop} (c : CallW P f args h K0) (m : ∀ r h', K0 r h' → K r h') : AnyW P f args h K :=
  AnyW.call he (c.mono m)
theorem AnyW.eq {P : Program} {f : FuncId} (he : enters P f = true) {args : List V} {h : Heap} {v : V} {K : V → Heap → Prop} (c : CallW P f args h fun r h' => r = v ∧ h' = h) (m : K v h) : AnyW P f args h K :=
  AnyW.call he (c.mono fun r h' e => by obtain ⟨rfl, rfl⟩ := e; exact m)
theorem brW_i {b : Bool} {T E : Prop} (t : b = true → T) (e : b = false → E) : brW b T E := by cases b with | true => exact t rfl | false => exact e rfl
theorem let_i {α : Type} {v : α} {p : α → Prop} (h : ∀ x, x = v → p x) : (let x := v; p x) := h v rfl
theorem ofNat_int (n : Nat) : (OfNat.ofNat n : Int) = (n : Int) := rfl
end Jb
namespace Jb
open Go
theorem Heap.sub_rfl (h : Heap) : h.Sub h := fun _ _ e => e
theorem Heap.Sub.trans {a b c : Heap} (x : a.Sub b) (y : b.Sub c) : a.Sub c := fun l o e => y l o (x l o e)
theorem Heap.sub_new {h h' : Heap} {l : Nat} {o : Ob} (e : h l = none) (s : h.Sub h') : h.Sub (h'.upd l o) := fun x o' hx => by
  have : x ≠ l := by rintro rfl; rw [e] at hx; cases hx
  rw [upd_ne h' o this]; exact s x o' hx
@[simp] theorem zero_addN (n : Nat) : 0 + n = n := Nat.zero_add n
theorem shV_any : True := trivial
end Jb
namespace Jb
open Go
/-- A slice that may be appended to. -/
def Can (g : G) (es n : Nat) (h : Heap) : Prop := g = .full ∨ ∃ s, g = .own s ∧ h s = some (.grow es n)
/-- Two of them, apart. -/
def Apart (g g' : G) : Prop := ∀ s, g = .own s → g' ≠ .own s

theorem Can.full {es n : Nat} {h : Heap} : Can .full es n h := .inl rfl
theorem apart_full {g : G} : Apart .full g := fun s e => by cases e
theorem appG_one {es n m : Nat} {g : G} {h : Heap} {K : G → Heap → Prop} (c : Can g es n h)
    (k : ∀ s h', h' s = some (.grow es (n + (m + 1))) → (∀ l o, h l = some o → g ≠ .own l → h' l = some o ∧ l ≠ s) → K (.own s) h') : appG es n (m + 1) g h K := by
  rcases c with rfl | ⟨s, rfl, hs⟩
  · intro s hs
    refine k s _ (by simp) (fun l o hl _ => ?_)
    have : l ≠ s := by rintro rfl; rw [hs] at hl; cases hl
    exact ⟨by rw [upd_ne h _ this]; exact hl, this⟩
  · refine ⟨hs, k s _ (by simp) (fun l o hl hg => ?_)⟩
    have : l ≠ s := by rintro rfl; exact hg rfl
    exact ⟨by rw [upd_ne h _ this]; exact hl, this⟩

/-- A state of a loop with a heap of its own. -/
theorem wpA_loopH {P : Program} {cf : Cfg} {c : Code} {fr : Fr} {h : Heap} {Q : Ex → Fr → Heap → Prop} {σ : Type} (mk : σ → Fr) (m : σ → Nat) (Inv : σ → Heap → Prop) (s : σ) (e1 : fr = mk s) (hI : Inv s h)
    (round : ∀ s h, Inv s h → wpA P cf c (mk s) h (seqK (fun f h' => ∃ s', f = mk s' ∧ Inv s' h' ∧ m s' < m s) Q)) : wpA P cf (.loop c) fr h Q :=
  wpA_loop (σ := σ × Heap) (fun x => mk x.1) (fun x => x.2) (fun x => m x.1) (fun x => Inv x.1 x.2) (s, h) e1 rfl hI fun x hx =>
    wpA_mono c (seqK_mono (fun f h' ⟨s', e, i, l⟩ => ⟨(s', h'), e, rfl, i, l⟩) (fun _ _ _ k => k)) (round x.1 x.2 hx)
end Jb
end

section
set_option linter.all false
set_option maxRecDepth 100000
open Go Go.Proofs Jb
def f24_cf : Cfg := ⟨[], [(0, [2]), (1, [0]), (3, [8, 9, 10]), (4, [4, 11, 12, 13, 14, 15]), (5, [5, 6, 7, 16]), (6, [16, 17]), (7, [5, 6, 7, 8])]⟩
noncomputable def f24_b : Code := bodyOf Try.f24
noncomputable def f24_n : Code :=  (codeAt [] f24_b)
noncomputable def f24_n1 : Code := hide (codeAt [1] f24_b)
noncomputable def f24_n10 : Code := hide (codeAt [1, 0] f24_b)
noncomputable def f24_n1010 : Code := hide (codeAt [1, 0, 1, 0] f24_b)
noncomputable def f24_n10100 : Code := hide (codeAt [1, 0, 1, 0, 0] f24_b)
noncomputable def f24_n11 : Code := hide (codeAt [1, 1] f24_b)
theorem f24_entry (l : List Int) (l_g : G) (h : Heap) (K : V → Heap → Prop) : bodyW Try.prog f24_cf Try.f24 [(V.sl 1 (col l) l_g)] h K = wpA Try.prog f24_cf f24_n ⟨[(V.sl 1 (col l) l_g), V.undef, V.undef, V.undef, V.undef, V.undef, V.undef, V.undef, V.undef, V.undef, V.undef, V.undef, V.undef, V.undef, V.undef, V.undef, V.undef, V.undef], []⟩ h (bodyK Try.prog Try.f24 K) := by kernel_rfl
theorem f24_n_plug : f24_n = (plug [1] (codeAt [] f24_b) f24_n1) := by
  simp only [f24_n, f24_n1, hide_eq]
  try kernel_rfl
theorem f24_n_wp (l : List Int) (l_g : G) (h : Heap) (Q : Ex → Fr → Heap → Prop) : wpA Try.prog f24_cf f24_n ⟨[(V.sl 1 (col l) l_g), V.undef, V.undef, V.undef, V.undef, V.undef, V.undef, V.undef, V.undef, V.undef, V.undef, V.undef, V.undef, V.undef, V.undef, V.undef, V.undef, V.undef], []⟩ h Q =
 (wpA Try.prog f24_cf f24_n1 ⟨[(V.sl 1 (col l) l_g), V.undef, V.undef, V.undef, V.undef, V.undef, V.undef, V.undef, V.undef, V.undef, V.undef, V.undef, V.undef, V.undef, V.undef, V.undef, V.undef, V.undef], []⟩ h Q) := wpA_at f24_n_plug (by kernel_rfl)
theorem f24_n1_eq : f24_n1 = Code.seq f24_n10 f24_n11 := by
  simp only [f24_n1, f24_n10, f24_n11, hide_eq]
  kernel_rfl
theorem f24_n10_plug : f24_n10 = (plug [1, 0] (codeAt [1, 0] f24_b) f24_n1010) := by
  simp only [f24_n10, f24_n1010, hide_eq]
  try kernel_rfl
theorem f24_n10_wp (e0 : List (List V)) (g1 : G) (h : Heap) (Q : Ex → Fr → Heap → Prop) : wpA Try.prog f24_cf f24_n10 ⟨[(V.sl 1 e0 g1), V.undef, V.undef, V.undef, V.undef, V.undef, V.undef, V.undef, V.undef, V.undef, V.undef, V.undef, V.undef, V.undef, V.undef, V.undef, V.undef, V.undef], []⟩ h Q =
 (wpA Try.prog f24_cf f24_n1010 ⟨[V.undef, V.undef, V.undef, V.undef, V.undef, (V.sl 1 e0 g1), (V.int Go.IntKind.i64 ((List.length e0) : Int)), (V.int Go.IntKind.i64 (0 : Int)), V.undef, V.undef, V.undef, V.undef, V.undef, V.undef, V.undef, V.undef, V.undef, V.undef], []⟩ h (blockK 0 Q)) := wpA_at f24_n10_plug (by kernel_rfl)
theorem f24_n1010_eq : f24_n1010 = Code.loop f24_n10100 := by
  simp only [f24_n1010, f24_n10100, hide_eq]
  kernel_rfl
def f24_n1010_F (e0 : List (List V)) (g1 : G) (x2 : Int) (x3 : Int) : Fr := ⟨[V.undef, V.undef, V.undef, V.undef, V.undef, (V.sl 1 e0 g1), (V.int Go.IntKind.i64 x2), (V.int Go.IntKind.i64 x3), V.undef, V.undef, V.undef, V.undef, V.undef, V.undef, V.undef, V.undef, V.undef, V.undef], []⟩
theorem f24_n10100_plug : f24_n10100 = (codeAt [1, 0, 1, 0, 0] f24_b) := by
  simp only [f24_n10100, hide_eq]
  try kernel_rfl
theorem f24_n10100_wp (e0 : List (List V)) (g1 : G) (x2 : Int) (x3 : Int) (h : Heap) (Q : Ex → Fr → Heap → Prop) : wpA Try.prog f24_cf f24_n10100 ⟨[V.undef, V.undef, V.undef, V.undef, V.undef, (V.sl 1 e0 g1), (V.int Go.IntKind.i64 x2), (V.int Go.IntKind.i64 x3), V.undef, V.undef, V.undef, V.undef, V.undef, V.undef, V.undef, V.undef, V.undef, V.undef], []⟩ h Q =
 (brW (decide (x3 < x2))
 ((0 ≤ x3 ∧ x3 < (List.length e0)) ∧ ((0 < (List.length (ge e0 (Int.toNat x3))) ∧ V.isInt Go.IntKind.i64 (gv (ge e0 (Int.toNat x3)) 0) = true) ∧ (let iz1 : Int := (V.num (gv (ge e0 (Int.toNat x3)) 0));
 (let bz2 : Bool := (decide (iz1 < (0 : Int)));
 (((!bz2) = true → (!bz2) = true) ∧ (let bz3 : Bool := (decide ((4611686018427387904 : Int) < iz1));
 (((bz2 = false → (!bz2) = true) ∧ True) ∧ (brW (cond bz2 true bz3)
 (Q Ex.ret ⟨[V.undef, V.undef, (V.bool false), V.undef, V.undef, V.undef, V.undef, V.undef, V.undef, V.undef, V.undef, V.undef, V.undef, V.undef, V.undef, V.undef, V.undef, V.undef], []⟩ h)
 (let iz4 : Int := (Go.IntKind.wrap Go.IntKind.i64 (x3 + (1 : Int)));
 (Q Ex.normal ⟨[V.undef, V.undef, V.undef, V.undef, V.undef, (V.sl 1 e0 g1), (V.int Go.IntKind.i64 x2), (V.int Go.IntKind.i64 iz4), V.undef, V.undef, V.undef, V.undef, V.undef, V.undef, V.undef, V.undef, V.undef, V.undef], []⟩ h))))))))))
 (Q (Ex.exit 0) ⟨[V.undef, V.undef, V.undef, V.undef, V.undef, (V.sl 1 e0 g1), (V.int Go.IntKind.i64 x2), (V.int Go.IntKind.i64 x3), (V.bool (decide (x3 < x2))), V.undef, V.undef, V.undef, V.undef, V.undef, V.undef, V.undef, V.undef, V.undef], []⟩ h)) := wpA_at f24_n10100_plug (by kernel_rfl)
theorem f24_n11_plug : f24_n11 = (codeAt [1, 1] f24_b) := by
  simp only [f24_n11, hide_eq]
  try kernel_rfl
theorem f24_n11_wp (e0 : List (List V)) (g1 : G) (x2 : Int) (x3 : Int) (b4 : Bool) (h : Heap) (Q : Ex → Fr → Heap → Prop) : wpA Try.prog f24_cf f24_n11 ⟨[V.undef, V.undef, V.undef, V.undef, V.undef, (V.sl 1 e0 g1), (V.int Go.IntKind.i64 x2), (V.int Go.IntKind.i64 x3), (V.bool b4), V.undef, V.undef, V.undef, V.undef, V.undef, V.undef, V.undef, V.undef, V.undef], []⟩ h Q =
 (Q Ex.ret ⟨[V.undef, V.undef, (V.bool true), V.undef, V.undef, V.undef, V.undef, V.undef, V.undef, V.undef, V.undef, V.undef, V.undef, V.undef, V.undef, V.undef, V.undef, V.undef], []⟩ h) := wpA_at f24_n11_plug (by kernel_rfl)
theorem f24_end1 (b0 : Bool) (h : Heap) (K : V → Heap → Prop) : bodyK Try.prog Try.f24 K Ex.ret ⟨[V.undef, V.undef, (V.bool b0), V.undef, V.undef, V.undef, V.undef, V.undef, V.undef, V.undef, V.undef, V.undef, V.undef, V.undef, V.undef, V.undef, V.undef, V.undef], []⟩ h = (K (V.bool b0) h) := by kernel_rfl
end

section
set_option linter.all false
set_option maxRecDepth 100000
open Go Go.Proofs Jb
def f32_cf : Cfg := ⟨[], [(0, [4]), (1, [0, 1, 5, 6, 7, 8, 9, 10, 11, 12, 13, 14, 15, 16, 17, 18])]⟩
noncomputable def f32_b : Code := bodyOf Try.f32
noncomputable def f32_n : Code :=  (codeAt [] f32_b)
theorem f32_entry (a : Int) (s : Int) (h : Heap) (K : V → Heap → Prop) : bodyW Try.prog f32_cf Try.f32 [(V.int Go.IntKind.i64 a), (V.int Go.IntKind.i64 s)] h K = wpA Try.prog f32_cf f32_n ⟨[(V.int Go.IntKind.i64 a), (V.int Go.IntKind.i64 s), V.undef, V.undef, V.undef, V.undef, V.undef, V.undef, V.undef, V.undef, V.undef, V.undef, V.undef, V.undef, V.undef, V.undef, V.undef, V.undef, V.undef], []⟩ h (bodyK Try.prog Try.f32 K) := by kernel_rfl
theorem f32_n_plug : f32_n = (codeAt [] f32_b) := by
  simp only [f32_n, hide_eq]
  try kernel_rfl
theorem f32_n_wp (a : Int) (s : Int) (h : Heap) (Q : Ex → Fr → Heap → Prop) : wpA Try.prog f32_cf f32_n ⟨[(V.int Go.IntKind.i64 a), (V.int Go.IntKind.i64 s), V.undef, V.undef, V.undef, V.undef, V.undef, V.undef, V.undef, V.undef, V.undef, V.undef, V.undef, V.undef, V.undef, V.undef, V.undef, V.undef, V.undef], []⟩ h Q =
 (((decide ((0 : Int) ≤ a)) = true → (decide ((0 : Int) ≤ a)) = true) ∧ ((((decide ((0 : Int) ≤ a)) = true → (decide ((0 : Int) ≤ a)) = true) ∧ True) ∧ (let bz1 : Bool := (cond (decide ((0 : Int) ≤ a)) (decide (a < (8 : Int))) false);
 ((bz1 = true → bz1 = true) ∧ ((bz1 = true → bz1 = true) ∧ (let bz2 : Bool := (bz1 && !(s == (1 : Int)));
 (((bz1 && !(s == (1 : Int))) = true → bz2 = true) ∧ (let bz3 : Bool := (bz1 && !(s == (1 : Int)));
 ((bz1 = true → bz1 = true) ∧ ((bz1 = true → (((s == (1 : Int)) = false → bz3 = true) ∧ True)) ∧ (let bz4 : Bool := (cond (s == (1 : Int)) true (s == (2 : Int)));
 (((bz1 = true → bz1 = true) ∧ True) ∧ (Q Ex.ret ⟨[V.undef, V.undef, V.undef, V.undef, (V.bool (cond bz1 bz4 false)), V.undef, V.undef, V.undef, V.undef, V.undef, V.undef, V.undef, V.undef, V.undef, V.undef, V.undef, V.undef, V.undef, V.undef], []⟩ h))))))))))))) := wpA_at f32_n_plug (by kernel_rfl)
theorem f32_end1 (b0 : Bool) (h : Heap) (K : V → Heap → Prop) : bodyK Try.prog Try.f32 K Ex.ret ⟨[V.undef, V.undef, V.undef, V.undef, (V.bool b0), V.undef, V.undef, V.undef, V.undef, V.undef, V.undef, V.undef, V.undef, V.undef, V.undef, V.undef, V.undef, V.undef, V.undef], []⟩ h = (K (V.bool b0) h) := by kernel_rfl
end

section
open Go Go.Proofs Jb
theorem mix : Try.prog.follows .mixedOrders = true := by kernel_rfl

/-- There are such an account, and such an asset. -/
def isA (x s : Int) : Bool := decide (0 ≤ x ∧ x < 8 ∧ (s = 1 ∨ s = 2))
theorem isA_iff {x s : Int} : isA x s = true ↔ 0 ≤ x ∧ x < 8 ∧ (s = 1 ∨ s = 2) := by unfold isA; exact decide_eq_true_iff
theorem is_call (a s : Int) (h : Heap) : CallW Try.prog 32 [.int .i64 a, .int .i64 s] h (fun r h' => r = .bool (isA a s) ∧ h' = h) := by
  unfold isA
  refine CallW.body mix f32_cf Try.func32 (by rw [Try.ntmps32]; simp) ?_
  rw [f32_entry, f32_n_wp]
  by_cases h1 : 0 ≤ a <;> by_cases h2 : a < 8 <;> by_cases h3 : s = 1 <;> by_cases h4 : s = 2 <;> simp_all [f32_end1]

theorem fine_call (l : List Int) (g : G) (hl : l.length < 1000000) (h : Heap) : CallW Try.prog 24 [.sl 1 (col l) g] h (fun r h' => r = .bool (l.all fine1) ∧ h' = h) := by
  refine CallW.body mix f24_cf Try.func24 (by rw [Try.ntmps24]; simp) ?_
  rw [f24_entry, f24_n_wp, f24_n1_eq, wpA_seq, f24_n10_wp, f24_n1010_eq]
  refine wpA_loop (σ := Nat) (fun i => f24_n1010_F (col l) g l.length i) (fun _ => h) (fun i => l.length - i) (fun i => i ≤ l.length ∧ (l.take i).all fine1 = true) 0 (by simp [f24_n1010_F]) rfl (by simp) ?_
  rintro i ⟨hi, ha⟩
  simp only [f24_n1010_F]
  rw [f24_n10100_wp]
  by_cases h1 : i < l.length
  · have hw : IntKind.i64.wrap ((i : Int) + 1) = ((i + 1 : Nat) : Int) := by rw [Go.IntWalk.i64_in] <;> omega
    have e1 : l.take (i + 1) = l.take i ++ [gi l i] := take_next l h1
    have e2 : l.all fine1 = true → fine1 (gi l i) = true := fun e => List.all_eq_true.1 e _ (gi_mem l h1)
    simp only [show ((i : Int) < l.length) from by omega, decide_true, brW_true, col_len, Int.toNat_natCast, col_get l h1, hw]
    generalize gi l i = x at *
    cases hf : fine1 x with
    | true =>
      have f1 : 0 ≤ x ∧ x ≤ 4611686018427387904 := (fine1_iff x).1 hf
      simp [-List.all_eq_true, show ¬ x < 0 from by omega, show ¬ 4611686018427387904 < x from by omega]
      exact ⟨i + 1, by simp, ⟨by omega, by rw [e1]; simp [-List.all_eq_true, ha, hf]⟩, by omega⟩
    | false =>
      have f1 : x < 0 ∨ 4611686018427387904 < x := (fine1_no x).1 hf
      have f2 : l.all fine1 = false := by cases h : l.all fine1 with | false => rfl | true => rw [e2 h] at hf; cases hf
      have f3 : (if x < 0 then true else decide (4611686018427387904 < x)) = true := by rcases f1 with f | f <;> simp [f]
      simp [-List.all_eq_true, -List.all_eq_false, brW_iff, f24_end1, f2]
      intro a b
      have := of_decide_eq_false a
      have := of_decide_eq_false b
      omega
  · have e : l.take i = l := by rw [List.take_of_length_le]; omega
    rw [e] at ha
    simp [-List.all_eq_true, h1, f24_n11_wp, f24_end1, ha]
end

section
open Go Go.Proofs Jb
set_option linter.unusedSimpArgs false

/-- An order. -/
structure Odr where
  id : Int
  acc : Int
  side : Int
  price : Int
  qty : Int
  seq : Int
  deriving DecidableEq, Inhabited

def ocs (o : Odr) : List V := [.int .u64 o.id, .int .i64 o.acc, .int .i64 o.side, .int .i64 o.price, .int .i64 o.qty, .int .u64 o.seq]
@[simp] theorem ocs_len (o : Odr) : (ocs o).length = 6 := rfl
@[simp] theorem ocs0 (o : Odr) : gv (ocs o) 0 = .int .u64 o.id := rfl
@[simp] theorem ocs1 (o : Odr) : gv (ocs o) 1 = .int .i64 o.acc := rfl
@[simp] theorem ocs2 (o : Odr) : gv (ocs o) 2 = .int .i64 o.side := rfl
@[simp] theorem ocs3 (o : Odr) : gv (ocs o) 3 = .int .i64 o.price := rfl
@[simp] theorem ocs4 (o : Odr) : gv (ocs o) 4 = .int .i64 o.qty := rfl
@[simp] theorem ocs5 (o : Odr) : gv (ocs o) 5 = .int .u64 o.seq := rfl
def rows (l : List Odr) : List (List V) := l.map ocs
@[simp] theorem rows_len (l : List Odr) : (rows l).length = l.length := by simp [rows]
theorem rows_append (l m : List Odr) : rows (l ++ m) = rows l ++ rows m := by simp [rows]
def go (l : List Odr) (i : Nat) : Odr := l.getD i default
theorem go_lt (l : List Odr) {i : Nat} (h : i < l.length) : go l i = l[i] := by simp [go, List.getD, h]
theorem rows_get (l : List Odr) {i : Nat} (h : i < l.length) : ge (rows l) i = ocs (go l i) := by
  simp [ge, go, rows, List.getD, List.getElem?_map, List.getElem?_eq_getElem h]
def tab (l : List Odr) : List V := (rows l).flatten
@[simp] theorem tab_nil : tab [] = [] := rfl
@[simp] theorem tab_cons (o : Odr) (l : List Odr) : tab (o :: l) = ocs o ++ tab l := by simp [tab, rows]
theorem tab_append (l m : List Odr) : tab (l ++ m) = tab l ++ tab m := by simp [tab, rows_append]
@[simp] theorem tab_len (l : List Odr) : (tab l).length = l.length * 6 := by
  induction l with
  | nil => rfl
  | cons a l ih => simp [ih]; omega
theorem tab_drop (l : List Odr) (rest : List V) (i : Nat) (h : i ≤ l.length) : (tab l ++ rest).drop (i * 6) = tab (l.drop i) ++ rest := by
  conv => lhs; rw [← List.take_append_drop i l, tab_append, List.append_assoc]
  rw [List.drop_append_of_le_length (by simp; omega), List.drop_of_length_le (by simp; omega)]
  rfl
theorem tab_get (l : List Odr) (rest : List V) {i : Nat} (h : i < l.length) : List.take 6 (List.drop (i * 6) (tab l ++ rest)) = ocs (go l i) := by
  rw [tab_drop l rest i (by omega), List.drop_eq_getElem_cons h, tab_cons, go_lt l h]
  simp [ocs]
theorem tab_take (l : List Odr) (rest : List V) (i : Nat) (h : i ≤ l.length) : (tab l ++ rest).take (i * 6) = tab (l.take i) := by
  conv => lhs; rw [← List.take_append_drop i l, tab_append, List.append_assoc]
  rw [List.take_append_of_le_length (by simp; omega), List.take_of_length_le (by simp; omega)]
theorem tab_wr (l : List Odr) (rest : List V) {i : Nat} (o : Odr) (h : i < l.length) : wrCells (tab l ++ rest) (i * 6) (ocs o) = tab (l.set i o) ++ rest := by
  have e : i * 6 + (ocs o).length = (i + 1) * 6 := by simp; omega
  simp only [wrCells]
  rw [e, tab_take l rest i (by omega), tab_drop l rest (i + 1) (by omega), List.set_eq_take_append_cons_drop, if_pos h]
  simp [tab_append]

/-- The heap with orders in a block. -/
def T (l : Nat) (rs : List Odr) (rest : List V) (h : Heap) : Heap := h.upd l (.cells (tab rs ++ rest))
@[simp] theorem T_at (l : Nat) (rs : List Odr) (rest : List V) (h : Heap) : cellsAt (T l rs rest h) l = tab rs ++ rest := by simp [T]
@[simp] theorem T_upd (l : Nat) (rs : List Odr) (rest : List V) (h : Heap) (cs : List V) : (T l rs rest h).upd l (.cells cs) = h.upd l (.cells cs) := by simp [T]
theorem T_fold (l : Nat) (rs : List Odr) (rest : List V) (h : Heap) : h.upd l (.cells (tab rs ++ rest)) = T l rs rest h := rfl

/-- Sums and differences that have room. -/
theorem wadd (a b : Nat) (h : a + b < 4611686018427387904) : IntKind.i64.wrap ((a : Int) + (b : Int)) = ((a + b : Nat) : Int) := by rw [Go.IntWalk.i64_in] <;> omega
theorem wadd1 (a : Nat) (h : a + 1 < 4611686018427387904) : IntKind.i64.wrap ((a : Int) + 1) = ((a + 1 : Nat) : Int) := by rw [Go.IntWalk.i64_in] <;> omega
theorem wsub (a b : Nat) (h : b ≤ a) (ha : a < 4611686018427387904) : IntKind.i64.wrap ((a : Int) - (b : Int)) = ((a - b : Nat) : Int) := by rw [Go.IntWalk.i64_in] <;> omega
theorem wsub1 (a : Nat) (h : 1 ≤ a) (ha : a < 4611686018427387904) : IntKind.i64.wrap ((a : Int) - 1) = ((a - 1 : Nat) : Int) := by rw [Go.IntWalk.i64_in] <;> omega

/-- Two places change. -/
def swp (rs : List Odr) (i j : Nat) : List Odr := (rs.set i (go rs j)).set j (go rs i)
@[simp] theorem swp_len (rs : List Odr) (i j : Nat) : (swp rs i j).length = rs.length := by simp [swp]
def swapR (rs : List Odr) (a b : Nat) : Nat → List Odr
  | 0 => rs
  | k + 1 => swp (swapR rs a b k) (a + k) (b + k)
@[simp] theorem swapR_len (rs : List Odr) (a b k : Nat) : (swapR rs a b k).length = rs.length := by
  induction k with
  | zero => rfl
  | succ k ih => simp [swapR, ih]

theorem go_set (l : List Odr) (i j : Nat) (v : Odr) : go (l.set i v) j = if i = j ∧ i < l.length then v else go l j := by
  simp only [go, List.getD, List.getElem?_set]
  by_cases e : i = j
  · subst e
    by_cases h : i < l.length
    · simp [h]
    · simp [h, List.getElem?_eq_none (Nat.le_of_not_lt h)]
  · simp [e]
theorem go_ext {l m : List Odr} (hl : l.length = m.length) (h : ∀ i, i < l.length → go l i = go m i) : l = m := by
  apply List.ext_getElem hl
  intro i h1 h2
  have := h i h1
  rwa [go_lt l h1, go_lt m h2] at this
theorem go_append (l m : List Odr) (i : Nat) : go (l ++ m) i = if i < l.length then go l i else go m (i - l.length) := by
  simp only [go, List.getD, List.getElem?_append]
  split <;> rfl
theorem go_take (l : List Odr) (n i : Nat) : go (l.take n) i = if i < n then go l i else default := by
  simp only [go, List.getD, List.getElem?_take]
  split <;> rfl
theorem go_drop (l : List Odr) (n i : Nat) : go (l.drop n) i = go l (n + i) := by simp only [go, List.getD, List.getElem?_drop]

theorem go_swp (rs : List Odr) (i j x : Nat) (hi : i < rs.length) (hj : j < rs.length) : go (swp rs i j) x = if x = i then go rs j else if x = j then go rs i else go rs x := by
  unfold swp
  rw [go_set, go_set]
  simp only [List.length_set, hi, hj, and_true]
  by_cases e1 : x = i
  · by_cases e2 : x = j
    · subst e1; subst e2; simp
    · simp [e1, show ¬ j = i from by omega]
  · by_cases e2 : x = j
    · simp [e1, e2]
      intro h; omega
    · simp [e1, e2, show ¬ j = x from by omega, show ¬ i = x from by omega]

theorem go_swapR (rs : List Odr) (a b k x : Nat) (ha : a + k ≤ b) (hb : b + k ≤ rs.length) :
    go (swapR rs a b k) x = if a ≤ x ∧ x < a + k then go rs (x - a + b) else if b ≤ x ∧ x < b + k then go rs (x - b + a) else go rs x := by
  induction k generalizing x with
  | zero => simp [swapR, show ¬ (a ≤ x ∧ x < a) from by omega, show ¬ (b ≤ x ∧ x < b) from by omega]
  | succ k ih =>
    have ih := fun x => ih x (by omega) (by omega)
    rw [swapR, go_swp _ _ _ _ (by simp; omega) (by simp; omega), ih, ih, ih]
    by_cases e1 : x = a + k
    · subst e1
      simp only [if_true, show ¬ (a ≤ b + k ∧ b + k < a + k) from by omega, if_false, show ¬ (b ≤ b + k ∧ b + k < b + k) from by omega, show a ≤ a + k ∧ a + k < a + (k + 1) from by omega]
      rw [show a + k - a + b = b + k from by omega]
      simp
    · by_cases e2 : x = b + k
      · subst e2
        simp only [e1, if_true, if_false, show ¬ (a ≤ a + k ∧ a + k < a + k) from by omega, show ¬ (b ≤ a + k ∧ a + k < b + k) from by omega, show ¬ (a ≤ b + k ∧ b + k < a + (k + 1)) from by omega, show b ≤ b + k ∧ b + k < b + (k + 1) from by omega]
        rw [show b + k - b + a = a + k from by omega]
        simp
      · have q1 : (a ≤ x ∧ x < a + (k + 1)) ↔ (a ≤ x ∧ x < a + k) := by omega
        have q2 : (b ≤ x ∧ x < b + (k + 1)) ↔ (b ≤ x ∧ x < b + k) := by omega
        simp only [e1, e2, if_false, q1, q2]

/-- Two pieces, one behind the other, change places. -/
def rot (rs : List Odr) (x y z : Nat) : List Odr := rs.take x ++ ((rs.drop y).take (z - y) ++ ((rs.drop x).take (y - x) ++ rs.drop z))
theorem rot_len (rs : List Odr) (x y z : Nat) (h1 : x ≤ y) (h2 : y ≤ z) (h3 : z ≤ rs.length) : (rot rs x y z).length = rs.length := by
  simp [rot]; omega
theorem go_rot (rs : List Odr) (x y z p : Nat) (h1 : x ≤ y) (h2 : y ≤ z) (h3 : z ≤ rs.length) :
    go (rot rs x y z) p = if p < x then go rs p else if p < x + (z - y) then go rs (p - x + y) else if p < z then go rs (p - (z - y)) else go rs p := by
  unfold rot
  rw [go_append, go_append, go_append, go_take, go_take, go_take, go_drop, go_drop, go_drop]
  simp only [List.length_take, List.length_drop, show min x rs.length = x from by omega, show min (z - y) (rs.length - y) = z - y from by omega, show min (y - x) (rs.length - x) = y - x from by omega]
  by_cases c1 : p < x
  · simp [c1]
  · by_cases c2 : p < x + (z - y)
    · simp only [c1, c2, if_false, if_true, show p - x < z - y from by omega]
      rw [show y + (p - x) = p - x + y from by omega]
    · by_cases c3 : p < z
      · simp only [c1, c2, c3, if_false, if_true, show ¬ p - x < z - y from by omega, show p - x - (z - y) < y - x from by omega]
        rw [show x + (p - x - (z - y)) = p - (z - y) from by omega]
      · simp only [c1, c2, c3, if_false, show ¬ p - x < z - y from by omega, show ¬ p - x - (z - y) < y - x from by omega]
        rw [show z + (p - x - (z - y) - (y - x)) = p from by omega]

theorem rot_eq (rs : List Odr) (m i : Nat) (h1 : i ≤ m) (h2 : m + i ≤ rs.length) : swapR rs (m - i) m i = rot rs (m - i) m (m + i) := by
  apply go_ext
  · rw [rot_len _ _ _ _ (by omega) (by omega) h2]; simp
  · intro p hp
    rw [go_swapR _ _ _ _ _ (by omega) h2, go_rot _ _ _ _ _ (by omega) (by omega) h2]
    by_cases c1 : p < m - i
    · simp only [c1, if_true, show ¬ (m - i ≤ p ∧ p < m - i + i) from by omega, show ¬ (m ≤ p ∧ p < m + i) from by omega, if_false]
    · by_cases c2 : p < m
      · simp only [c1, if_false, show m - i ≤ p ∧ p < m - i + i from by omega, if_true, and_self, show p < m - i + (m + i - m) from by omega]
      · by_cases c3 : p < m + i
        · simp only [c1, if_false, show ¬ (m - i ≤ p ∧ p < m - i + i) from by omega, show m ≤ p ∧ p < m + i from by omega, and_self, if_true, show ¬ p < m - i + (m + i - m) from by omega, c3, and_false]
          congr 1; omega
        · simp only [c1, if_false, show ¬ (m - i ≤ p ∧ p < m - i + i) from by omega, show ¬ (m ≤ p ∧ p < m + i) from by omega, show ¬ p < m - i + (m + i - m) from by omega, c3, and_false]

theorem rot_left (rs : List Odr) (m i j : Nat) (hji : j < i) (h1 : i ≤ m) (h2 : m + j ≤ rs.length) : rot (swapR rs (m - i) m j) (m - (i - j)) m (m + j) = rot rs (m - i) m (m + j) := by
  apply go_ext
  · rw [rot_len _ _ _ _ (by omega) (by omega) (by simpa using h2), rot_len _ _ _ _ (by omega) (by omega) h2]; simp
  · intro p hp
    have G := go_swapR rs (m - i) m j
    rw [go_rot _ _ _ _ _ (by omega) (by omega) (by simpa using h2), go_rot _ _ _ _ _ (by omega) (by omega) h2, G _ (by omega) h2, G _ (by omega) h2, G _ (by omega) h2]
    by_cases c1 : p < m - i
    · simp only [c1, if_true, show p < m - (i - j) from by omega, show ¬ (m - i ≤ p ∧ p < m - i + j) from by omega, show ¬ (m ≤ p ∧ p < m + j) from by omega, if_false]
    · by_cases c2 : p < m - i + j
      · simp only [c1, if_false, show p < m - (i - j) from by omega, if_true, show m - i ≤ p ∧ p < m - i + j from by omega, and_self, show p < m - i + (m + j - m) from by omega]
      · have n1 : ¬ p < m - (i - j) := by omega
        have n2 : ¬ p < m - i + (m + j - m) := by omega
        by_cases c3 : p < m - (i - j) + (m + j - m)
        · simp only [c1, n1, n2, c3, if_false, if_true, show p < m + j from by omega, show ¬ (m - i ≤ p - (m - (i - j)) + m ∧ p - (m - (i - j)) + m < m - i + j) from by omega, show m ≤ p - (m - (i - j)) + m ∧ p - (m - (i - j)) + m < m + j from by omega, and_self]
          congr 1; omega
        · by_cases c4 : p < m + j
          · simp only [c1, n1, n2, c3, c4, if_false, if_true, show ¬ (m - i ≤ p - (m + j - m) ∧ p - (m + j - m) < m - i + j) from by omega, show ¬ (m ≤ p - (m + j - m) ∧ p - (m + j - m) < m + j) from by omega]
          · simp only [c1, n1, n2, c3, c4, if_false, show ¬ (m - i ≤ p ∧ p < m - i + j) from by omega, show ¬ (m ≤ p ∧ p < m + j) from by omega, and_false]

theorem rot_right (rs : List Odr) (m i j : Nat) (hji : i < j) (h1 : i ≤ m) (h2 : m + j ≤ rs.length) : rot (swapR rs (m - i) (m + j - i) i) (m - i) m (m + (j - i)) = rot rs (m - i) m (m + j) := by
  apply go_ext
  · rw [rot_len _ _ _ _ (by omega) (by omega) (by simp; omega), rot_len _ _ _ _ (by omega) (by omega) h2]; simp
  · intro p hp
    have G := go_swapR rs (m - i) (m + j - i) i
    rw [go_rot _ _ _ _ _ (by omega) (by omega) (by simp; omega), go_rot _ _ _ _ _ (by omega) (by omega) h2, G _ (by omega) (by omega), G _ (by omega) (by omega), G _ (by omega) (by omega)]
    by_cases c1 : p < m - i
    · simp only [c1, if_true, show ¬ (m - i ≤ p ∧ p < m - i + i) from by omega, show ¬ (m + j - i ≤ p ∧ p < m + j - i + i) from by omega, if_false]
    · by_cases c2 : p < m - i + (m + (j - i) - m)
      · simp only [c1, c2, if_false, if_true, show p < m - i + (m + j - m) from by omega, show ¬ (m - i ≤ p - (m - i) + m ∧ p - (m - i) + m < m - i + i) from by omega, show ¬ (m + j - i ≤ p - (m - i) + m ∧ p - (m - i) + m < m + j - i + i) from by omega]
      · by_cases c3 : p < m + (j - i)
        · simp only [c1, c2, c3, if_false, if_true, show p < m - i + (m + j - m) from by omega, show m - i ≤ p - (m + (j - i) - m) ∧ p - (m + (j - i) - m) < m - i + i from by omega, and_self]
          congr 1; omega
        · by_cases c4 : p < m + j
          · simp only [c1, c2, c3, c4, if_false, if_true, show ¬ p < m - i + (m + j - m) from by omega, show ¬ (m - i ≤ p ∧ p < m - i + i) from by omega, show m + j - i ≤ p ∧ p < m + j - i + i from by omega, and_self]
            congr 1; omega
          · simp only [c1, c2, c3, c4, if_false, show ¬ p < m - i + (m + j - m) from by omega, show ¬ (m - i ≤ p ∧ p < m - i + i) from by omega, show ¬ (m + j - i ≤ p ∧ p < m + j - i + i) from by omega]
end

section
set_option linter.all false
set_option maxRecDepth 100000
open Go Go.Proofs Jb
def f74_cf : Cfg := ⟨[], [(0, [2]), (1, [5, 6, 7, 8, 9, 10, 11, 12, 13, 14, 15, 16, 17, 18, 19, 20, 21, 22]), (2, [0, 23]), (3, [23]), (5, [27, 28, 29, 30]), (6, [3, 4, 31, 32, 33, 34, 35, 36, 37, 38, 39, 40, 41, 42, 43, 44, 45, 46, 47, 48, 49, 50, 51, 52, 53, 54, 55]), (7, [0, 24, 25, 26, 56]), (8, [56, 57]), (9, [0, 24, 25, 26, 27])]⟩
noncomputable def f74_b : Code := bodyOf Try.f74
noncomputable def f74_n : Code :=  (codeAt [] f74_b)
noncomputable def f74_n11 : Code := hide (codeAt [1, 1] f74_b)
noncomputable def f74_n110 : Code := hide (codeAt [1, 1, 0] f74_b)
noncomputable def f74_n11010 : Code := hide (codeAt [1, 1, 0, 1, 0] f74_b)
noncomputable def f74_n110100 : Code := hide (codeAt [1, 1, 0, 1, 0, 0] f74_b)
noncomputable def f74_n111 : Code := hide (codeAt [1, 1, 1] f74_b)
theorem f74_entry (t : List (List V)) (t_g : G) (h : Heap) (K : V → Heap → Prop) : bodyW Try.prog f74_cf Try.f74 [(V.sl 2 t t_g)] h K = wpA Try.prog f74_cf f74_n ⟨[(V.sl 2 t t_g), V.undef, V.undef, V.undef, V.undef, V.undef, V.undef, V.undef, V.undef, V.undef, V.undef, V.undef, V.undef, V.undef, V.undef, V.undef, V.undef, V.undef, V.undef, V.undef, V.undef, V.undef, V.undef, V.undef, V.undef, V.undef, V.undef, V.undef, V.undef, V.undef, V.undef, V.undef, V.undef, V.undef, V.undef, V.undef, V.undef, V.undef, V.undef, V.undef, V.undef, V.undef, V.undef, V.undef, V.undef, V.undef, V.undef, V.undef, V.undef, V.undef, V.undef, V.undef, V.undef, V.undef, V.undef, V.undef, V.undef, V.undef], []⟩ h (bodyK Try.prog Try.f74 K) := by kernel_rfl
theorem f74_n_plug : f74_n = (plug [1, 1] (codeAt [] f74_b) f74_n11) := by
  simp only [f74_n, f74_n11, hide_eq]
  try kernel_rfl
theorem f74_n_wp (t : List (List V)) (t_g : G) (h : Heap) (Q : Ex → Fr → Heap → Prop) : wpA Try.prog f74_cf f74_n ⟨[(V.sl 2 t t_g), V.undef, V.undef, V.undef, V.undef, V.undef, V.undef, V.undef, V.undef, V.undef, V.undef, V.undef, V.undef, V.undef, V.undef, V.undef, V.undef, V.undef, V.undef, V.undef, V.undef, V.undef, V.undef, V.undef, V.undef, V.undef, V.undef, V.undef, V.undef, V.undef, V.undef, V.undef, V.undef, V.undef, V.undef, V.undef, V.undef, V.undef, V.undef, V.undef, V.undef, V.undef, V.undef, V.undef, V.undef, V.undef, V.undef, V.undef, V.undef, V.undef, V.undef, V.undef, V.undef, V.undef, V.undef, V.undef, V.undef, V.undef], []⟩ h Q =
 (let bz1 : Bool := (decide (((List.length t) : Int) < (1 : Int)));
 (((!bz1) = true → (!bz1) = true) ∧ (((!bz1) = true → (!bz1) = true) ∧ (let bz2 : Bool := (decide ((8 : Int) < ((List.length t) : Int)));
 (((bz1 = false → (!bz1) = true) ∧ True) ∧ (((!(cond bz1 true bz2)) = true → (!(cond bz1 true bz2)) = true) ∧ (((!(cond bz1 true bz2)) = true → (0 ≤ (0 : Int) ∧ (0 : Int) < (List.length t))) ∧ (((!(cond bz1 true bz2)) = true → (!(cond bz1 true bz2)) = true) ∧ (((!(cond bz1 true bz2)) = true → (0 + 2 ≤ (List.length (ge t 0)))) ∧ (let cz3 : List V := (List.take 2 (List.drop 0 (ge t 0)));
 (((!(cond bz1 true bz2)) = true → (!(cond bz1 true bz2)) = true) ∧ (((!(cond bz1 true bz2)) = true → (0 ≤ (0 : Int) ∧ (0 : Int) < (List.length t))) ∧ (((!(cond bz1 true bz2)) = true → (!(cond bz1 true bz2)) = true) ∧ (((!(cond bz1 true bz2)) = true → (!(cond bz1 true bz2)) = true) ∧ (((!(cond bz1 true bz2)) = true → (1 < (List.length (ge t 0)) ∧ V.isInt Go.IntKind.i64 (gv (ge t 0) 1) = true)) ∧ (((!(cond bz1 true bz2)) = true → (!(cond bz1 true bz2)) = true) ∧ (((!(cond bz1 true bz2)) = true → (True ∧ True)) ∧ (((!(cond bz1 true bz2)) = true → (!(cond bz1 true bz2)) = true) ∧ (((!(cond bz1 true bz2)) = true → (!(cond bz1 true bz2)) = true) ∧ (((!(cond bz1 true bz2)) = true → (fits [(V.int Go.IntKind.i64 (0 : Int)), (V.int Go.IntKind.i64 (0 : Int))] cz3 = true ∧ fits [(V.int Go.IntKind.i64 (0 : Int)), (V.int Go.IntKind.i64 (0 : Int))] [(V.int Go.IntKind.i64 (0 : Int)), (V.int Go.IntKind.i64 (V.num (gv (ge t 0) 1)))] = true)) ∧ (let bz4 : Bool := (!(eqlCells cz3 [(V.int Go.IntKind.i64 (0 : Int)), (V.int Go.IntKind.i64 (V.num (gv (ge t 0) 1)))]));
 ((((cond bz1 true bz2) = false → (!(cond bz1 true bz2)) = true) ∧ True) ∧ (let bz5 : Bool := (cond (cond bz1 true bz2) true bz4);
 (brW bz5
 (Q Ex.ret ⟨[V.undef, V.undef, (V.bool false), V.undef, V.undef, V.undef, V.undef, V.undef, V.undef, V.undef, V.undef, V.undef, V.undef, V.undef, V.undef, V.undef, V.undef, V.undef, V.undef, V.undef, V.undef, V.undef, V.undef, V.undef, V.undef, V.undef, V.undef, V.undef, V.undef, V.undef, V.undef, V.undef, V.undef, V.undef, V.undef, V.undef, V.undef, V.undef, V.undef, V.undef, V.undef, V.undef, V.undef, V.undef, V.undef, V.undef, V.undef, V.undef, V.undef, V.undef, V.undef, V.undef, V.undef, V.undef, V.undef, V.undef, V.undef, V.undef], []⟩ h)
 (wpA Try.prog f74_cf f74_n11 ⟨[(V.sl 2 t t_g), V.undef, V.undef, V.undef, V.undef, V.undef, V.undef, V.undef, V.undef, V.undef, V.undef, V.undef, V.undef, V.undef, V.undef, V.undef, V.undef, V.undef, V.undef, V.undef, V.undef, V.undef, V.undef, (V.bool bz5), V.undef, V.undef, V.undef, V.undef, V.undef, V.undef, V.undef, V.undef, V.undef, V.undef, V.undef, V.undef, V.undef, V.undef, V.undef, V.undef, V.undef, V.undef, V.undef, V.undef, V.undef, V.undef, V.undef, V.undef, V.undef, V.undef, V.undef, V.undef, V.undef, V.undef, V.undef, V.undef, V.undef, V.undef], []⟩ h Q))))))))))))))))))))))))) := wpA_at f74_n_plug (by kernel_rfl)
theorem f74_n11_eq : f74_n11 = Code.seq f74_n110 f74_n111 := by
  simp only [f74_n11, f74_n110, f74_n111, hide_eq]
  kernel_rfl
theorem f74_n110_plug : f74_n110 = (plug [1, 0] (codeAt [1, 1, 0] f74_b) f74_n11010) := by
  simp only [f74_n110, f74_n11010, hide_eq]
  try kernel_rfl
theorem f74_n110_wp (e0 : List (List V)) (g1 : G) (b2 : Bool) (h : Heap) (Q : Ex → Fr → Heap → Prop) : wpA Try.prog f74_cf f74_n110 ⟨[(V.sl 2 e0 g1), V.undef, V.undef, V.undef, V.undef, V.undef, V.undef, V.undef, V.undef, V.undef, V.undef, V.undef, V.undef, V.undef, V.undef, V.undef, V.undef, V.undef, V.undef, V.undef, V.undef, V.undef, V.undef, (V.bool b2), V.undef, V.undef, V.undef, V.undef, V.undef, V.undef, V.undef, V.undef, V.undef, V.undef, V.undef, V.undef, V.undef, V.undef, V.undef, V.undef, V.undef, V.undef, V.undef, V.undef, V.undef, V.undef, V.undef, V.undef, V.undef, V.undef, V.undef, V.undef, V.undef, V.undef, V.undef, V.undef, V.undef, V.undef], []⟩ h Q =
 (wpA Try.prog f74_cf f74_n11010 ⟨[(V.sl 2 e0 g1), V.undef, V.undef, V.undef, V.undef, V.undef, V.undef, V.undef, V.undef, V.undef, V.undef, V.undef, V.undef, V.undef, V.undef, V.undef, V.undef, V.undef, V.undef, V.undef, V.undef, V.undef, V.undef, V.undef, (V.sl 2 e0 g1), (V.int Go.IntKind.i64 ((List.length e0) : Int)), (V.int Go.IntKind.i64 (0 : Int)), V.undef, V.undef, V.undef, V.undef, V.undef, V.undef, V.undef, V.undef, V.undef, V.undef, V.undef, V.undef, V.undef, V.undef, V.undef, V.undef, V.undef, V.undef, V.undef, V.undef, V.undef, V.undef, V.undef, V.undef, V.undef, V.undef, V.undef, V.undef, V.undef, V.undef, V.undef], []⟩ h (blockK 0 Q)) := wpA_at f74_n110_plug (by kernel_rfl)
theorem f74_n11010_eq : f74_n11010 = Code.loop f74_n110100 := by
  simp only [f74_n11010, f74_n110100, hide_eq]
  kernel_rfl
def f74_n110100_F (e0 : List (List V)) (g1 : G) (e2 : List (List V)) (g3 : G) (x4 : Int) (x5 : Int) : Fr := ⟨[(V.sl 2 e0 g1), V.undef, V.undef, V.undef, V.undef, V.undef, V.undef, V.undef, V.undef, V.undef, V.undef, V.undef, V.undef, V.undef, V.undef, V.undef, V.undef, V.undef, V.undef, V.undef, V.undef, V.undef, V.undef, V.undef, (V.sl 2 e2 g3), (V.int Go.IntKind.i64 x4), (V.int Go.IntKind.i64 x5), V.undef, V.undef, V.undef, V.undef, V.undef, V.undef, V.undef, V.undef, V.undef, V.undef, V.undef, V.undef, V.undef, V.undef, V.undef, V.undef, V.undef, V.undef, V.undef, V.undef, V.undef, V.undef, V.undef, V.undef, V.undef, V.undef, V.undef, V.undef, V.undef, V.undef, V.undef], []⟩
theorem f74_n110100_plug : f74_n110100 = (codeAt [1, 1, 0, 1, 0, 0] f74_b) := by
  simp only [f74_n110100, hide_eq]
  try kernel_rfl
theorem f74_n110100_wp (e0 : List (List V)) (g1 : G) (e2 : List (List V)) (g3 : G) (x4 : Int) (x5 : Int) (h : Heap) (Q : Ex → Fr → Heap → Prop) : wpA Try.prog f74_cf f74_n110100 ⟨[(V.sl 2 e0 g1), V.undef, V.undef, V.undef, V.undef, V.undef, V.undef, V.undef, V.undef, V.undef, V.undef, V.undef, V.undef, V.undef, V.undef, V.undef, V.undef, V.undef, V.undef, V.undef, V.undef, V.undef, V.undef, V.undef, (V.sl 2 e2 g3), (V.int Go.IntKind.i64 x4), (V.int Go.IntKind.i64 x5), V.undef, V.undef, V.undef, V.undef, V.undef, V.undef, V.undef, V.undef, V.undef, V.undef, V.undef, V.undef, V.undef, V.undef, V.undef, V.undef, V.undef, V.undef, V.undef, V.undef, V.undef, V.undef, V.undef, V.undef, V.undef, V.undef, V.undef, V.undef, V.undef, V.undef, V.undef], []⟩ h Q =
 (brW (decide (x5 < x4))
 ((0 ≤ x5 ∧ x5 < (List.length e2)) ∧ ((0 + 2 ≤ (List.length (ge e2 (Int.toNat x5)))) ∧ (let cz6 : List V := (List.take 2 (List.drop 0 (ge e2 (Int.toNat x5))));
 (True ∧ (((List.length cz6) = 2) ∧ 0 + 2 ≤ 2 ∧ (let cz7 : List V := (wrCells [(V.int Go.IntKind.i64 (0 : Int)), (V.int Go.IntKind.i64 (0 : Int))] 0 cz6);
 ((1 < (List.length cz7) ∧ V.isInt Go.IntKind.i64 (gv cz7 1) = true) ∧ (let bz8 : Bool := (decide ((V.num (gv cz7 1)) < (1 : Int)));
 (((!bz8) = true → (!bz8) = true) ∧ (((!bz8) = true → (1 < (List.length cz7) ∧ V.isInt Go.IntKind.i64 (gv cz7 1) = true)) ∧ (((!bz8) = true → (!bz8) = true) ∧ (((!bz8) = true → (0 < (List.length cz7) ∧ V.isInt Go.IntKind.i64 (gv cz7 0) = true)) ∧ (((!bz8) = true → (!bz8) = true) ∧ (((!bz8) = true → (!bz8) = true) ∧ (let iz9 : Int := (if (V.num (gv cz7 1)) < (V.num (gv cz7 0)) then (V.num (gv cz7 0)) else (V.num (gv cz7 1)));
 (((!bz8) = true → (!bz8) = true) ∧ (let bz10 : Bool := (decide ((1099511627776 : Int) < iz9));
 (((bz8 = false → (!bz8) = true) ∧ True) ∧ (((!(cond bz8 true bz10)) = true → (!(cond bz8 true bz10)) = true) ∧ (let bz11 : Bool := (decide ((0 : Int) < x5));
 (((!(cond bz8 true bz10)) = true → (!(cond bz8 true bz10)) = true) ∧ (let bz12 : Bool := ((!(cond bz8 true bz10)) && bz11);
 ((((!(cond bz8 true bz10)) && bz11) = true → bz12 = true) ∧ ((((!(cond bz8 true bz10)) && bz11) = true → (0 < (List.length cz7) ∧ V.isInt Go.IntKind.i64 (gv cz7 0) = true)) ∧ (let bz13 : Bool := ((!(cond bz8 true bz10)) && bz11);
 (let bz14 : Bool := ((!(cond bz8 true bz10)) && bz11);
 (let bz15 : Bool := ((!(cond bz8 true bz10)) && bz11);
 ((((!(cond bz8 true bz10)) && bz11) = true → bz15 = true) ∧ (let bz16 : Bool := ((!(cond bz8 true bz10)) && bz11);
 (let iz17 : Int := (Go.IntKind.wrap Go.IntKind.i64 (x5 - (1 : Int)));
 ((((!(cond bz8 true bz10)) && bz11) = true → bz14 = true) ∧ ((((!(cond bz8 true bz10)) && bz11) = true → bz16 = true) ∧ ((((!(cond bz8 true bz10)) && bz11) = true → (0 ≤ iz17 ∧ iz17 < (List.length e0))) ∧ (let bz18 : Bool := ((!(cond bz8 true bz10)) && bz11);
 ((((!(cond bz8 true bz10)) && bz11) = true → bz18 = true) ∧ (let bz19 : Bool := ((!(cond bz8 true bz10)) && bz11);
 ((((!(cond bz8 true bz10)) && bz11) = true → bz19 = true) ∧ ((((!(cond bz8 true bz10)) && bz11) = true → (0 < (List.length (ge e0 (Int.toNat iz17))) ∧ V.isInt Go.IntKind.i64 (gv (ge e0 (Int.toNat iz17)) 0) = true)) ∧ (let bz20 : Bool := ((!(cond bz8 true bz10)) && bz11);
 (let iz21 : Int := (V.num (gv (ge e0 (Int.toNat iz17)) 0));
 ((((!(cond bz8 true bz10)) && bz11) = true → bz13 = true) ∧ ((((!(cond bz8 true bz10)) && bz11) = true → bz20 = true) ∧ (let bz22 : Bool := ((!(cond bz8 true bz10)) && bz11);
 (let bz23 : Bool := (decide ((V.num (gv cz7 0)) ≤ iz21));
 (((!(cond bz8 true bz10)) = true → (!(cond bz8 true bz10)) = true) ∧ (((!(cond bz8 true bz10)) = true → ((bz11 = true → bz22 = true) ∧ True)) ∧ ((((cond bz8 true bz10) = false → (!(cond bz8 true bz10)) = true) ∧ True) ∧ (let bz24 : Bool := (cond (cond bz8 true bz10) true (cond bz11 bz23 false));
 (brW bz24
 (Q Ex.ret ⟨[V.undef, V.undef, (V.bool false), V.undef, V.undef, V.undef, V.undef, V.undef, V.undef, V.undef, V.undef, V.undef, V.undef, V.undef, V.undef, V.undef, V.undef, V.undef, V.undef, V.undef, V.undef, V.undef, V.undef, V.undef, V.undef, V.undef, V.undef, V.undef, V.undef, V.undef, V.undef, V.undef, V.undef, V.undef, V.undef, V.undef, V.undef, V.undef, V.undef, V.undef, V.undef, V.undef, V.undef, V.undef, V.undef, V.undef, V.undef, V.undef, V.undef, V.undef, V.undef, V.undef, V.undef, V.undef, V.undef, V.undef, V.undef, V.undef], []⟩ h)
 (let iz25 : Int := (Go.IntKind.wrap Go.IntKind.i64 (x5 + (1 : Int)));
 (Q Ex.normal ⟨[(V.sl 2 e0 g1), V.undef, V.undef, V.undef, V.undef, V.undef, V.undef, V.undef, V.undef, V.undef, V.undef, V.undef, V.undef, V.undef, V.undef, V.undef, V.undef, V.undef, V.undef, V.undef, V.undef, V.undef, V.undef, V.undef, (V.sl 2 e2 g3), (V.int Go.IntKind.i64 x4), (V.int Go.IntKind.i64 iz25), V.undef, V.undef, V.undef, V.undef, V.undef, V.undef, V.undef, V.undef, V.undef, V.undef, V.undef, V.undef, V.undef, V.undef, V.undef, V.undef, V.undef, V.undef, V.undef, V.undef, V.undef, V.undef, V.undef, V.undef, V.undef, V.undef, V.undef, V.undef, V.undef, V.undef, V.undef], []⟩ h)))))))))))))))))))))))))))))))))))))))))))))))))))
 (Q (Ex.exit 0) ⟨[(V.sl 2 e0 g1), V.undef, V.undef, V.undef, V.undef, V.undef, V.undef, V.undef, V.undef, V.undef, V.undef, V.undef, V.undef, V.undef, V.undef, V.undef, V.undef, V.undef, V.undef, V.undef, V.undef, V.undef, V.undef, V.undef, (V.sl 2 e2 g3), (V.int Go.IntKind.i64 x4), (V.int Go.IntKind.i64 x5), (V.bool (decide (x5 < x4))), V.undef, V.undef, V.undef, V.undef, V.undef, V.undef, V.undef, V.undef, V.undef, V.undef, V.undef, V.undef, V.undef, V.undef, V.undef, V.undef, V.undef, V.undef, V.undef, V.undef, V.undef, V.undef, V.undef, V.undef, V.undef, V.undef, V.undef, V.undef, V.undef, V.undef], []⟩ h)) := wpA_at f74_n110100_plug (by kernel_rfl)
theorem f74_n111_plug : f74_n111 = (codeAt [1, 1, 1] f74_b) := by
  simp only [f74_n111, hide_eq]
  try kernel_rfl
theorem f74_n111_wp (e0 : List (List V)) (g1 : G) (e2 : List (List V)) (g3 : G) (x4 : Int) (x5 : Int) (b6 : Bool) (h : Heap) (Q : Ex → Fr → Heap → Prop) : wpA Try.prog f74_cf f74_n111 ⟨[(V.sl 2 e0 g1), V.undef, V.undef, V.undef, V.undef, V.undef, V.undef, V.undef, V.undef, V.undef, V.undef, V.undef, V.undef, V.undef, V.undef, V.undef, V.undef, V.undef, V.undef, V.undef, V.undef, V.undef, V.undef, V.undef, (V.sl 2 e2 g3), (V.int Go.IntKind.i64 x4), (V.int Go.IntKind.i64 x5), (V.bool b6), V.undef, V.undef, V.undef, V.undef, V.undef, V.undef, V.undef, V.undef, V.undef, V.undef, V.undef, V.undef, V.undef, V.undef, V.undef, V.undef, V.undef, V.undef, V.undef, V.undef, V.undef, V.undef, V.undef, V.undef, V.undef, V.undef, V.undef, V.undef, V.undef, V.undef], []⟩ h Q =
 (Q Ex.ret ⟨[V.undef, V.undef, (V.bool true), V.undef, V.undef, V.undef, V.undef, V.undef, V.undef, V.undef, V.undef, V.undef, V.undef, V.undef, V.undef, V.undef, V.undef, V.undef, V.undef, V.undef, V.undef, V.undef, V.undef, V.undef, V.undef, V.undef, V.undef, V.undef, V.undef, V.undef, V.undef, V.undef, V.undef, V.undef, V.undef, V.undef, V.undef, V.undef, V.undef, V.undef, V.undef, V.undef, V.undef, V.undef, V.undef, V.undef, V.undef, V.undef, V.undef, V.undef, V.undef, V.undef, V.undef, V.undef, V.undef, V.undef, V.undef, V.undef], []⟩ h) := wpA_at f74_n111_plug (by kernel_rfl)
theorem f74_end1 (b0 : Bool) (h : Heap) (K : V → Heap → Prop) : bodyK Try.prog Try.f74 K Ex.ret ⟨[V.undef, V.undef, (V.bool b0), V.undef, V.undef, V.undef, V.undef, V.undef, V.undef, V.undef, V.undef, V.undef, V.undef, V.undef, V.undef, V.undef, V.undef, V.undef, V.undef, V.undef, V.undef, V.undef, V.undef, V.undef, V.undef, V.undef, V.undef, V.undef, V.undef, V.undef, V.undef, V.undef, V.undef, V.undef, V.undef, V.undef, V.undef, V.undef, V.undef, V.undef, V.undef, V.undef, V.undef, V.undef, V.undef, V.undef, V.undef, V.undef, V.undef, V.undef, V.undef, V.undef, V.undef, V.undef, V.undef, V.undef, V.undef, V.undef], []⟩ h = (K (V.bool b0) h) := by kernel_rfl
end

section
set_option linter.all false
set_option maxRecDepth 100000
open Go Go.Proofs Jb
def f63_cf : Cfg := ⟨[], [(0, [4]), (1, [0, 1, 5, 6, 7, 8, 9, 10, 11, 12, 13, 14])]⟩
noncomputable def f63_b : Code := bodyOf Try.f63
noncomputable def f63_n : Code :=  (codeAt [] f63_b)
theorem f63_entry (t : List (List V)) (t_g : G) (x : Int) (h : Heap) (K : V → Heap → Prop) : bodyW Try.prog f63_cf Try.f63 [(V.sl 2 t t_g), (V.int Go.IntKind.i64 x)] h K = wpA Try.prog f63_cf f63_n ⟨[(V.sl 2 t t_g), (V.int Go.IntKind.i64 x), V.undef, V.undef, V.undef, V.undef, V.undef, V.undef, V.undef, V.undef, V.undef, V.undef, V.undef, V.undef, V.undef], []⟩ h (bodyK Try.prog Try.f63 K) := by kernel_rfl
theorem f63_n_plug : f63_n = (codeAt [] f63_b) := by
  simp only [f63_n, hide_eq]
  try kernel_rfl
theorem f63_n_wp (t : List (List V)) (t_g : G) (x : Int) (h : Heap) (Q : Ex → Fr → Heap → Prop) : wpA Try.prog f63_cf f63_n ⟨[(V.sl 2 t t_g), (V.int Go.IntKind.i64 x), V.undef, V.undef, V.undef, V.undef, V.undef, V.undef, V.undef, V.undef, V.undef, V.undef, V.undef, V.undef, V.undef], []⟩ h Q =
 (AnyW Try.prog 74 [(V.sl 2 t t_g)] h (fun (rz1 : V) (hz2 : Heap) =>
 ((True ∧ V.isBool rz1 = true) ∧ (((V.flag rz1) = true → (V.flag rz1) = true) ∧ ((((V.flag rz1) = true → (V.flag rz1) = true) ∧ True) ∧ (let bz3 : Bool := (cond (V.flag rz1) (decide ((1 : Int) ≤ x)) false);
 ((bz3 = true → bz3 = true) ∧ (let bz4 : Bool := (decide (x ≤ (1099511627776 : Int)));
 (((bz3 = true → bz3 = true) ∧ True) ∧ (Q Ex.ret ⟨[V.undef, V.undef, V.undef, V.undef, (V.bool (cond bz3 bz4 false)), V.undef, V.undef, V.undef, V.undef, V.undef, V.undef, V.undef, V.undef, V.undef, V.undef], []⟩ hz2)))))))))) := wpA_at f63_n_plug (by kernel_rfl)
theorem f63_end1 (b0 : Bool) (h : Heap) (K : V → Heap → Prop) : bodyK Try.prog Try.f63 K Ex.ret ⟨[V.undef, V.undef, V.undef, V.undef, (V.bool b0), V.undef, V.undef, V.undef, V.undef, V.undef, V.undef, V.undef, V.undef, V.undef, V.undef], []⟩ h = (K (V.bool b0) h) := by kernel_rfl
end

section
set_option linter.all false
set_option maxRecDepth 100000
open Go Go.Proofs Jb
def f84_cf : Cfg := ⟨[], [(0, [0, 3]), (1, [1, 2, 4, 5, 6, 7])]⟩
noncomputable def f84_b : Code := bodyOf Try.f84
noncomputable def f84_n : Code :=  (codeAt [] f84_b)
theorem f84_entry (r : List V) (p : Nat) (h : Heap) (K : V → Heap → Prop) : bodyW Try.prog f84_cf Try.f84 [(V.agg r), (V.ptr p 0)] h K = wpA Try.prog f84_cf f84_n ⟨[(V.agg r), (V.ptr p 0), V.undef, V.undef, V.undef, V.undef, V.undef, V.undef], []⟩ h (bodyK Try.prog Try.f84 K) := by kernel_rfl
theorem f84_n_plug : f84_n = (codeAt [] f84_b) := by
  simp only [f84_n, hide_eq]
  try kernel_rfl
theorem f84_n_wp (r : List V) (p : Nat) (h : Heap) (Q : Ex → Fr → Heap → Prop) : wpA Try.prog f84_cf f84_n ⟨[(V.agg r), (V.ptr p 0), V.undef, V.undef, V.undef, V.undef, V.undef, V.undef], []⟩ h Q =
 (((List.length r) = 2) ∧ ((0 < (List.length r) ∧ V.isInt Go.IntKind.i64 (gv r 0) = true) ∧ ((0 < (List.length (cellsAt h p)) ∧ V.isInt Go.IntKind.i64 (gv (cellsAt h p) 0) = true) ∧ (let iz1 : Int := (V.num (gv (cellsAt h p) 0));
 (let bz2 : Bool := (decide (iz1 < (V.num (gv r 0))));
 (Q Ex.ret ⟨[V.undef, V.undef, V.undef, (V.bool bz2), V.undef, V.undef, V.undef, V.undef], []⟩ h)))))) := wpA_at f84_n_plug (by kernel_rfl)
theorem f84_end1 (b0 : Bool) (h : Heap) (K : V → Heap → Prop) : bodyK Try.prog Try.f84 K Ex.ret ⟨[V.undef, V.undef, V.undef, (V.bool b0), V.undef, V.undef, V.undef, V.undef], []⟩ h = (K (V.bool b0) h) := by kernel_rfl
end

section
set_option linter.all false
set_option maxRecDepth 100000
open Go Go.Proofs Jb
def f83_cf : Cfg := ⟨[], [(0, [4]), (1, [6]), (3, [9, 10]), (4, [11, 12, 13, 14, 15]), (5, [0, 1, 5, 7, 8, 16, 17]), (6, [5, 16, 18]), (7, [0, 1, 7, 8, 9])]⟩
noncomputable def f83_b : Code := bodyOf Try.f83
noncomputable def f83_n : Code :=  (codeAt [] f83_b)
noncomputable def f83_n1 : Code := hide (codeAt [1] f83_b)
noncomputable def f83_n10 : Code := hide (codeAt [1, 0] f83_b)
noncomputable def f83_n1010 : Code := hide (codeAt [1, 0, 1, 0] f83_b)
noncomputable def f83_n10100 : Code := hide (codeAt [1, 0, 1, 0, 0] f83_b)
noncomputable def f83_n11 : Code := hide (codeAt [1, 1] f83_b)
theorem f83_entry (t : List (List V)) (t_g : G) (p : Nat) (h : Heap) (K : V → Heap → Prop) : bodyW Try.prog f83_cf Try.f83 [(V.sl 2 t t_g), (V.fn (Fn.func 84) [] [(V.ptr p 0)])] h K = wpA Try.prog f83_cf f83_n ⟨[(V.sl 2 t t_g), (V.fn (Fn.func 84) [] [(V.ptr p 0)]), V.undef, V.undef, V.undef, V.undef, V.undef, V.undef, V.undef, V.undef, V.undef, V.undef, V.undef, V.undef, V.undef, V.undef, V.undef, V.undef, V.undef], []⟩ h (bodyK Try.prog Try.f83 K) := by kernel_rfl
theorem f83_n_plug : f83_n = (plug [1] (codeAt [] f83_b) f83_n1) := by
  simp only [f83_n, f83_n1, hide_eq]
  try kernel_rfl
theorem f83_n_wp (t : List (List V)) (t_g : G) (p : Nat) (h : Heap) (Q : Ex → Fr → Heap → Prop) : wpA Try.prog f83_cf f83_n ⟨[(V.sl 2 t t_g), (V.fn (Fn.func 84) [] [(V.ptr p 0)]), V.undef, V.undef, V.undef, V.undef, V.undef, V.undef, V.undef, V.undef, V.undef, V.undef, V.undef, V.undef, V.undef, V.undef, V.undef, V.undef, V.undef], []⟩ h Q =
 (wpA Try.prog f83_cf f83_n1 ⟨[(V.sl 2 t t_g), (V.fn (Fn.func 84) [] [(V.ptr p 0)]), V.undef, V.undef, V.undef, V.undef, V.undef, V.undef, V.undef, V.undef, V.undef, V.undef, V.undef, V.undef, V.undef, V.undef, V.undef, V.undef, V.undef], []⟩ h Q) := wpA_at f83_n_plug (by kernel_rfl)
theorem f83_n1_eq : f83_n1 = Code.seq f83_n10 f83_n11 := by
  simp only [f83_n1, f83_n10, f83_n11, hide_eq]
  kernel_rfl
theorem f83_n10_plug : f83_n10 = (plug [1, 0] (codeAt [1, 0] f83_b) f83_n1010) := by
  simp only [f83_n10, f83_n1010, hide_eq]
  try kernel_rfl
theorem f83_n10_wp (e0 : List (List V)) (g1 : G) (l2 : Nat) (h : Heap) (Q : Ex → Fr → Heap → Prop) : wpA Try.prog f83_cf f83_n10 ⟨[(V.sl 2 e0 g1), (V.fn (Fn.func 84) [] [(V.ptr l2 0)]), V.undef, V.undef, V.undef, V.undef, V.undef, V.undef, V.undef, V.undef, V.undef, V.undef, V.undef, V.undef, V.undef, V.undef, V.undef, V.undef, V.undef], []⟩ h Q =
 (wpA Try.prog f83_cf f83_n1010 ⟨[(V.sl 2 e0 g1), (V.fn (Fn.func 84) [] [(V.ptr l2 0)]), V.undef, V.undef, V.undef, V.undef, V.undef, (V.int Go.IntKind.i64 ((List.length e0) : Int)), (V.int Go.IntKind.i64 (0 : Int)), V.undef, V.undef, V.undef, V.undef, V.undef, V.undef, V.undef, V.undef, V.undef, V.undef], []⟩ h (blockK 0 Q)) := wpA_at f83_n10_plug (by kernel_rfl)
theorem f83_n1010_eq : f83_n1010 = Code.loop f83_n10100 := by
  simp only [f83_n1010, f83_n10100, hide_eq]
  kernel_rfl
def f83_n10100_F (e0 : List (List V)) (g1 : G) (l2 : Nat) (x3 : Int) (x4 : Int) : Fr := ⟨[(V.sl 2 e0 g1), (V.fn (Fn.func 84) [] [(V.ptr l2 0)]), V.undef, V.undef, V.undef, V.undef, V.undef, (V.int Go.IntKind.i64 x3), (V.int Go.IntKind.i64 x4), V.undef, V.undef, V.undef, V.undef, V.undef, V.undef, V.undef, V.undef, V.undef, V.undef], []⟩
theorem f83_n10100_plug : f83_n10100 = (codeAt [1, 0, 1, 0, 0] f83_b) := by
  simp only [f83_n10100, hide_eq]
  try kernel_rfl
theorem f83_n10100_wp (e0 : List (List V)) (g1 : G) (l2 : Nat) (x3 : Int) (x4 : Int) (h : Heap) (Q : Ex → Fr → Heap → Prop) : wpA Try.prog f83_cf f83_n10100 ⟨[(V.sl 2 e0 g1), (V.fn (Fn.func 84) [] [(V.ptr l2 0)]), V.undef, V.undef, V.undef, V.undef, V.undef, (V.int Go.IntKind.i64 x3), (V.int Go.IntKind.i64 x4), V.undef, V.undef, V.undef, V.undef, V.undef, V.undef, V.undef, V.undef, V.undef, V.undef], []⟩ h Q =
 (brW (decide (x4 < x3))
 ((0 ≤ x4 ∧ x4 < (List.length e0)) ∧ ((0 + 2 ≤ (List.length (ge e0 (Int.toNat x4)))) ∧ (let cz1 : List V := (List.take 2 (List.drop 0 (ge e0 (Int.toNat x4))));
 (AnyW Try.prog 84 [(V.agg cz1), (V.ptr l2 0)] h (fun (rz2 : V) (hz3 : Heap) =>
 ((True ∧ V.isBool rz2 = true) ∧ (brW (V.flag rz2)
 (Q Ex.ret ⟨[V.undef, V.undef, V.undef, V.undef, (V.int Go.IntKind.i64 x4), V.undef, V.undef, V.undef, V.undef, V.undef, V.undef, V.undef, V.undef, V.undef, V.undef, V.undef, V.undef, V.undef, V.undef], []⟩ hz3)
 (let iz4 : Int := (Go.IntKind.wrap Go.IntKind.i64 (x4 + (1 : Int)));
 (Q Ex.normal ⟨[(V.sl 2 e0 g1), (V.fn (Fn.func 84) [] [(V.ptr l2 0)]), V.undef, V.undef, V.undef, V.undef, V.undef, (V.int Go.IntKind.i64 x3), (V.int Go.IntKind.i64 iz4), V.undef, V.undef, V.undef, V.undef, V.undef, V.undef, V.undef, V.undef, V.undef, V.undef], []⟩ hz3)))))))))
 (Q (Ex.exit 0) ⟨[(V.sl 2 e0 g1), (V.fn (Fn.func 84) [] [(V.ptr l2 0)]), V.undef, V.undef, V.undef, V.undef, V.undef, (V.int Go.IntKind.i64 x3), (V.int Go.IntKind.i64 x4), (V.bool (decide (x4 < x3))), V.undef, V.undef, V.undef, V.undef, V.undef, V.undef, V.undef, V.undef, V.undef], []⟩ h)) := wpA_at f83_n10100_plug (by kernel_rfl)
theorem f83_n11_plug : f83_n11 = (codeAt [1, 1] f83_b) := by
  simp only [f83_n11, hide_eq]
  try kernel_rfl
theorem f83_n11_wp (e0 : List (List V)) (g1 : G) (l2 : Nat) (x3 : Int) (x4 : Int) (b5 : Bool) (h : Heap) (Q : Ex → Fr → Heap → Prop) : wpA Try.prog f83_cf f83_n11 ⟨[(V.sl 2 e0 g1), (V.fn (Fn.func 84) [] [(V.ptr l2 0)]), V.undef, V.undef, V.undef, V.undef, V.undef, (V.int Go.IntKind.i64 x3), (V.int Go.IntKind.i64 x4), (V.bool b5), V.undef, V.undef, V.undef, V.undef, V.undef, V.undef, V.undef, V.undef, V.undef], []⟩ h Q =
 (Q Ex.ret ⟨[V.undef, V.undef, V.undef, V.undef, (V.int Go.IntKind.i64 (-1 : Int)), V.undef, V.undef, V.undef, V.undef, V.undef, V.undef, V.undef, V.undef, V.undef, V.undef, V.undef, V.undef, V.undef, V.undef], []⟩ h) := wpA_at f83_n11_plug (by kernel_rfl)
theorem f83_end1 (x0 : Int) (h : Heap) (K : V → Heap → Prop) : bodyK Try.prog Try.f83 K Ex.ret ⟨[V.undef, V.undef, V.undef, V.undef, (V.int Go.IntKind.i64 x0), V.undef, V.undef, V.undef, V.undef, V.undef, V.undef, V.undef, V.undef, V.undef, V.undef, V.undef, V.undef, V.undef, V.undef], []⟩ h = (K (V.int Go.IntKind.i64 x0) h) := by kernel_rfl
end

section
open Go Go.Proofs Jb
set_option linter.unusedSimpArgs false

/-- A row of a tick table: from where, how large. -/
abbrev Tk := Int × Int
def tks (t : List Tk) : List (List V) := t.map fun x => [.int .i64 x.1, .int .i64 x.2]
@[simp] theorem tks_len (t : List Tk) : (tks t).length = t.length := by simp [tks]
def tk (t : List Tk) (i : Nat) : Tk := t.getD i (0, 0)
theorem tk_lt (t : List Tk) {i : Nat} (h : i < t.length) : tk t i = t[i] := by simp [tk, List.getD, h]
theorem tks_get (t : List Tk) {i : Nat} (h : i < t.length) : ge (tks t) i = [.int .i64 (tk t i).1, .int .i64 (tk t i).2] := by
  simp [ge, tk, tks, List.getD, List.getElem?_map, List.getElem?_eq_getElem h]

@[simp] theorem eqlCell_int (k k' : IntKind) (a b : Int) : eqlCell (.int k a) (.int k' b) = (a == b) := rfl

def rowOk (t : List Tk) (i : Nat) : Bool := decide (1 ≤ (tk t i).2 ∧ (tk t i).2 ≤ 1099511627776 ∧ (tk t i).1 ≤ 1099511627776 ∧ (0 < i → (tk t (i - 1)).1 < (tk t i).1))
/-- May a tick table be? -/
def tickOk (t : List Tk) : Bool := decide (0 < t.length ∧ t.length ≤ 8 ∧ (tk t 0).1 = 0) && (List.range t.length).all (rowOk t)
theorem tickOk_iff (t : List Tk) : tickOk t = true ↔ (0 < t.length ∧ t.length ≤ 8 ∧ (tk t 0).1 = 0) ∧ ∀ i, i < t.length → rowOk t i = true := by
  unfold tickOk
  rw [Bool.and_eq_true, decide_eq_true_eq, List.all_eq_true]
  simp

theorem good_call (t : List Tk) (g : G) (hl : t.length < 1000000) (h : Heap) : CallW Try.prog 74 [.sl 2 (tks t) g] h (fun r h' => r = .bool (tickOk t) ∧ h' = h) := by
  refine CallW.body mix f74_cf Try.func74 (by rw [Try.ntmps74]; simp) ?_
  rw [f74_entry, f74_n_wp]
  have no : ¬ (0 < t.length ∧ t.length ≤ 8 ∧ (tk t 0).1 = 0) → tickOk t = false := fun c => by unfold tickOk; rw [decide_eq_false c]; rfl
  by_cases c1 : t.length < 1
  · have : t = [] := by cases t with | nil => rfl | cons a t => simp at c1
    subst this
    simp [f74_end1, tickOk]
  · by_cases c2 : 8 < t.length
    · rw [no (by omega)]
      simp only [tks_len, show decide ((t.length : Int) < 1) = false from decide_eq_false (by omega), show decide ((8 : Int) < (t.length : Int)) = true from decide_eq_true (by omega), Bool.not_false, Bool.not_true, cond_false, cond_true, Bool.false_eq_true, false_implies, forall_const, true_and, and_true, brW_true, Bool.true_eq_false]
      simp [f74_end1]
    · have e0 : 0 < t.length := by omega
      simp only [tks_len, show decide ((t.length : Int) < 1) = false from decide_eq_false (by omega), show decide ((8 : Int) < (t.length : Int)) = false from decide_eq_false (by omega), Bool.not_false, cond_false, forall_const, true_and, tks_get t e0]
      by_cases c3 : (tk t 0).1 = 0
      · simp [fits, eqlCells, kindEq, c3, e0]
        rw [f74_n11_eq, wpA_seq, f74_n110_wp, f74_n11010_eq]
        refine wpA_loop (σ := Nat) (fun i => f74_n110100_F (tks t) g (tks t) g t.length i) (fun _ => h) (fun i => t.length - i) (fun i => i ≤ t.length ∧ ∀ p, p < i → rowOk t p = true) 0 (by simp [f74_n110100_F]) rfl
          ⟨by omega, fun p hp => by omega⟩ ?_
        rintro i ⟨g1, g2⟩
        simp only [f74_n110100_F]
        rw [f74_n110100_wp]
        by_cases d1 : i < t.length
        · have d2 : i - 1 < t.length := by omega
          simp only [show decide ((i : Int) < (t.length : Int)) = true from decide_eq_true (by omega), brW_true, tks_len, Int.toNat_natCast, tks_get t d1, List.drop_zero, List.take, wrCells, List.length_cons, List.length_nil, List.drop_succ_cons, List.nil_append, List.append_nil, List.cons_append, gv_zero, gv_succ, num_int, isInt_i64, wadd1 i (by omega)]
          have hrow : rowOk t i = decide (1 ≤ (tk t i).2 ∧ (tk t i).2 ≤ 1099511627776 ∧ (tk t i).1 ≤ 1099511627776 ∧ (0 < i → (tk t (i - 1)).1 < (tk t i).1)) := rfl
          have bad : rowOk t i = false → tickOk t = false := fun e => by
            cases c : tickOk t with
            | false => rfl
            | true => rw [((tickOk_iff t).1 c).2 i d1] at e; cases e
          generalize hq : (fun r h' => r = V.bool (tickOk t) ∧ h' = h) = K
          by_cases q1 : (tk t i).2 < 1
          · simp [q1, f74_end1]
            rw [← hq, bad (by rw [hrow]; exact decide_eq_false (by omega))]
            exact ⟨d1, rfl, rfl⟩
          · by_cases q2 : 1099511627776 < (if (tk t i).2 < (tk t i).1 then (tk t i).1 else (tk t i).2)
            · simp [q1, q2, f74_end1]
              rw [← hq, bad (by rw [hrow]; exact decide_eq_false (by split at q2 <;> omega))]
              exact ⟨d1, rfl, rfl⟩
            · have q2' : (tk t i).2 ≤ 1099511627776 ∧ (tk t i).1 ≤ 1099511627776 := by split at q2 <;> omega
              by_cases q3 : 0 < i
              · have wi : IntKind.i64.wrap ((i : Int) - 1) = ((i - 1 : Nat) : Int) := wsub1 i (by omega) (by omega)
                simp only [wi, Int.toNat_natCast, tks_get t d2, gv_zero, gv_succ, num_int, isInt_i64, List.length_cons, List.length_nil]
                by_cases q4 : (tk t i).1 ≤ (tk t (i - 1)).1
                · simp [q1, q2, q3, q4, f74_end1]
                  rw [← hq, bad (by rw [hrow]; exact decide_eq_false (by omega))]
                  exact ⟨by omega, by omega, rfl, rfl⟩
                · simp [q1, q2, q3, q4, f74_end1]
                  refine ⟨by omega, by omega, i + 1, by simp, ⟨by omega, fun p hp => ?_⟩, by omega⟩
                  by_cases e : p = i
                  · rw [e, hrow]; exact decide_eq_true (by omega)
                  · exact g2 p (by omega)
              · obtain rfl : i = 0 := by omega
                simp [q1, q2, f74_end1]
                refine ⟨by omega, 1, by simp, ⟨by omega, fun p hp => ?_⟩, by omega⟩
                obtain rfl : p = 0 := by omega
                rw [hrow]; exact decide_eq_true (by omega)
        · have hi : i = t.length := by omega
          subst hi
          have : tickOk t = true := (tickOk_iff t).2 ⟨by omega, g2⟩
          simp [f74_n111_wp, f74_end1, this]
      · rw [no (fun c => c3 c.2.2)]
        simp [fits, eqlCells, kindEq, e0, show ((tk t 0).1 == 0) = false from by rw [beq_eq_false_iff_ne]; exact c3, f74_end1]
end

section
set_option linter.all false
set_option maxRecDepth 100000
open Go Go.Proofs Jb
def f75_cf : Cfg := ⟨[3], [(0, [1]), (1, [3, 6, 7, 8]), (2, [9]), (3, [10, 11, 12]), (4, [0, 5, 10, 13, 14, 15, 16, 17])]⟩
noncomputable def f75_b : Code := bodyOf Try.f75
noncomputable def f75_n : Code :=  (codeAt [] f75_b)
noncomputable def f75_n11 : Code := hide (codeAt [1, 1] f75_b)
noncomputable def f75_n110 : Code := hide (codeAt [1, 1, 0] f75_b)
noncomputable def f75_n111 : Code := hide (codeAt [1, 1, 1] f75_b)
theorem f75_entry (t : List (List V)) (t_g : G) (x : Int) (h : Heap) (K : V → Heap → Prop) : bodyW Try.prog f75_cf Try.f75 [(V.sl 2 t t_g), (V.int Go.IntKind.i64 x)] h K = wpA Try.prog f75_cf f75_n ⟨[(V.sl 2 t t_g), (V.int Go.IntKind.i64 x), V.undef, V.undef, V.undef, V.undef, V.undef, V.undef, V.undef, V.undef, V.undef, V.undef, V.undef, V.undef, V.undef, V.undef, V.undef, V.undef], []⟩ h (bodyK Try.prog Try.f75 K) := by kernel_rfl
theorem f75_n_plug : f75_n = (plug [1, 1] (codeAt [] f75_b) f75_n11) := by
  simp only [f75_n, f75_n11, hide_eq]
  try kernel_rfl
theorem f75_n_wp (t : List (List V)) (t_g : G) (x : Int) (h : Heap) (Q : Ex → Fr → Heap → Prop) : wpA Try.prog f75_cf f75_n ⟨[(V.sl 2 t t_g), (V.int Go.IntKind.i64 x), V.undef, V.undef, V.undef, V.undef, V.undef, V.undef, V.undef, V.undef, V.undef, V.undef, V.undef, V.undef, V.undef, V.undef, V.undef, V.undef], []⟩ h Q =
 (True ∧ (∀ lz1 : Nat, h lz1 = none → (let hz2 : Heap := (Heap.upd h lz1 (Ob.cells [(V.int Go.IntKind.i64 x)]));
 (True ∧ (AnyW Try.prog 83 [(V.sl 2 t t_g), (V.fn (Fn.func 84) [] [(V.ptr lz1 0)])] hz2 (fun (rz3 : V) (hz4 : Heap) =>
 ((True ∧ V.isInt Go.IntKind.i64 rz3 = true) ∧ (wpA Try.prog f75_cf f75_n11 ⟨[(V.sl 2 t t_g), V.undef, V.undef, V.undef, (V.lp 4 0), (V.int Go.IntKind.i64 (V.num rz3)), V.undef, V.undef, V.undef, V.undef, V.undef, V.undef, V.undef, V.undef, V.undef, V.undef, V.undef, V.undef], [(4, [(V.int Go.IntKind.i64 (0 : Int)), (V.int Go.IntKind.i64 (0 : Int))])]⟩ hz4 Q)))))))) := wpA_at f75_n_plug (by kernel_rfl)
theorem f75_n11_eq : f75_n11 = Code.seq f75_n110 f75_n111 := by
  simp only [f75_n11, f75_n110, f75_n111, hide_eq]
  kernel_rfl
theorem f75_n110_plug : f75_n110 = (codeAt [1, 1, 0] f75_b) := by
  simp only [f75_n110, hide_eq]
  try kernel_rfl
theorem f75_n110_wp (e0 : List (List V)) (g1 : G) (x2 : Int) (x3 : Int) (x4 : Int) (h : Heap) (Q : Ex → Fr → Heap → Prop) : wpA Try.prog f75_cf f75_n110 ⟨[(V.sl 2 e0 g1), V.undef, V.undef, V.undef, (V.lp 4 0), (V.int Go.IntKind.i64 x2), V.undef, V.undef, V.undef, V.undef, V.undef, V.undef, V.undef, V.undef, V.undef, V.undef, V.undef, V.undef], [(4, [(V.int Go.IntKind.i64 x3), (V.int Go.IntKind.i64 x4)])]⟩ h Q =
 (let bz5 : Bool := (decide (x2 < (0 : Int)));
 (brW bz5
 (Q Ex.normal ⟨[(V.sl 2 e0 g1), V.undef, V.undef, V.undef, (V.lp 4 0), (V.int Go.IntKind.i64 ((List.length e0) : Int)), V.undef, V.undef, V.undef, V.undef, V.undef, V.undef, V.undef, V.undef, V.undef, V.undef, V.undef, V.undef], [(4, [(V.int Go.IntKind.i64 x3), (V.int Go.IntKind.i64 x4)])]⟩ h)
 (Q Ex.normal ⟨[(V.sl 2 e0 g1), V.undef, V.undef, V.undef, (V.lp 4 0), (V.int Go.IntKind.i64 x2), V.undef, V.undef, V.undef, V.undef, (V.bool bz5), V.undef, V.undef, V.undef, V.undef, V.undef, V.undef, V.undef], [(4, [(V.int Go.IntKind.i64 x3), (V.int Go.IntKind.i64 x4)])]⟩ h))) := wpA_at f75_n110_plug (by kernel_rfl)
theorem f75_n111_plug : f75_n111 = (codeAt [1, 1, 1] f75_b) := by
  simp only [f75_n111, hide_eq]
  try kernel_rfl
theorem f75_n111_wp (e0 : List (List V)) (g1 : G) (x2 : Int) (x3 : Int) (x4 : Int) (h : Heap) (Q : Ex → Fr → Heap → Prop) : wpA Try.prog f75_cf f75_n111 ⟨[(V.sl 2 e0 g1), V.undef, V.undef, V.undef, (V.lp 4 0), (V.int Go.IntKind.i64 x2), V.undef, V.undef, V.undef, V.undef, V.undef, V.undef, V.undef, V.undef, V.undef, V.undef, V.undef, V.undef], [(4, [(V.int Go.IntKind.i64 x3), (V.int Go.IntKind.i64 x4)])]⟩ h Q =
 (let iz6 : Int := (Go.IntKind.wrap Go.IntKind.i64 (x2 - (1 : Int)));
 ((0 ≤ iz6 ∧ iz6 < (List.length e0)) ∧ ((0 + 2 ≤ (List.length (ge e0 (Int.toNat iz6)))) ∧ (let cz7 : List V := (List.take 2 (List.drop 0 (ge e0 (Int.toNat iz6))));
 (((List.length cz7) = 2) ∧ 0 + 2 ≤ 2 ∧ (let cz8 : List V := (wrCells [(V.int Go.IntKind.i64 x3), (V.int Go.IntKind.i64 x4)] 0 cz7);
 (Q Ex.ret ⟨[V.undef, V.undef, V.undef, V.undef, (V.lp 4 0), V.undef, V.undef, V.undef, V.undef, V.undef, V.undef, V.undef, V.undef, V.undef, V.undef, V.undef, V.undef, V.undef], [(4, cz8)]⟩ h))))))) := wpA_at f75_n111_plug (by kernel_rfl)
theorem f75_n111s1_wp (e0 : List (List V)) (g1 : G) (x2 : Int) (b3 : Bool) (x4 : Int) (x5 : Int) (h : Heap) (Q : Ex → Fr → Heap → Prop) : wpA Try.prog f75_cf f75_n111 ⟨[(V.sl 2 e0 g1), V.undef, V.undef, V.undef, (V.lp 4 0), (V.int Go.IntKind.i64 x2), V.undef, V.undef, V.undef, V.undef, (V.bool b3), V.undef, V.undef, V.undef, V.undef, V.undef, V.undef, V.undef], [(4, [(V.int Go.IntKind.i64 x4), (V.int Go.IntKind.i64 x5)])]⟩ h Q =
 (let iz9 : Int := (Go.IntKind.wrap Go.IntKind.i64 (x2 - (1 : Int)));
 ((0 ≤ iz9 ∧ iz9 < (List.length e0)) ∧ ((0 + 2 ≤ (List.length (ge e0 (Int.toNat iz9)))) ∧ (let cz10 : List V := (List.take 2 (List.drop 0 (ge e0 (Int.toNat iz9))));
 (((List.length cz10) = 2) ∧ 0 + 2 ≤ 2 ∧ (let cz11 : List V := (wrCells [(V.int Go.IntKind.i64 x4), (V.int Go.IntKind.i64 x5)] 0 cz10);
 (Q Ex.ret ⟨[V.undef, V.undef, V.undef, V.undef, (V.lp 4 0), V.undef, V.undef, V.undef, V.undef, V.undef, V.undef, V.undef, V.undef, V.undef, V.undef, V.undef, V.undef, V.undef], [(4, cz11)]⟩ h))))))) := wpA_at f75_n111_plug (by kernel_rfl)
theorem f75_end1 (c0 : List V) (h : Heap) (K : V → Heap → Prop) : bodyK Try.prog Try.f75 K Ex.ret ⟨[V.undef, V.undef, V.undef, V.undef, (V.lp 4 0), V.undef, V.undef, V.undef, V.undef, V.undef, V.undef, V.undef, V.undef, V.undef, V.undef, V.undef, V.undef, V.undef], [(4, c0)]⟩ h = ((0 + 2 ≤ (List.length c0)) ∧ (let cz12 : List V := (List.take 2 (List.drop 0 c0));
 (K (V.agg cz12) h))) := by kernel_rfl
end

section
set_option linter.all false
set_option maxRecDepth 100000
open Go Go.Proofs Jb
def f64_cf : Cfg := ⟨[], [(0, [4]), (1, [0, 6, 7, 8]), (2, [1, 5, 9, 10, 11, 12, 13, 14, 15, 16, 17])]⟩
noncomputable def f64_b : Code := bodyOf Try.f64
noncomputable def f64_n : Code :=  (codeAt [] f64_b)
theorem f64_entry (t : List (List V)) (t_g : G) (x : Int) (h : Heap) (K : V → Heap → Prop) : bodyW Try.prog f64_cf Try.f64 [(V.sl 2 t t_g), (V.int Go.IntKind.i64 x)] h K = wpA Try.prog f64_cf f64_n ⟨[(V.sl 2 t t_g), (V.int Go.IntKind.i64 x), V.undef, V.undef, V.undef, V.undef, V.undef, V.undef, V.undef, V.undef, V.undef, V.undef, V.undef, V.undef, V.undef, V.undef, V.undef, V.undef], []⟩ h (bodyK Try.prog Try.f64 K) := by kernel_rfl
theorem f64_n_plug : f64_n = (codeAt [] f64_b) := by
  simp only [f64_n, hide_eq]
  try kernel_rfl
theorem f64_n_wp (t : List (List V)) (t_g : G) (x : Int) (h : Heap) (Q : Ex → Fr → Heap → Prop) : wpA Try.prog f64_cf f64_n ⟨[(V.sl 2 t t_g), (V.int Go.IntKind.i64 x), V.undef, V.undef, V.undef, V.undef, V.undef, V.undef, V.undef, V.undef, V.undef, V.undef, V.undef, V.undef, V.undef, V.undef, V.undef, V.undef], []⟩ h Q =
 (AnyW Try.prog 75 [(V.sl 2 t t_g), (V.int Go.IntKind.i64 x)] h (fun (rz1 : V) (hz2 : Heap) =>
 ((True ∧ V.isAgg 2 rz1 = true) ∧ (True ∧ (((List.length (V.cells rz1)) = 2) ∧ 0 + 2 ≤ 2 ∧ (let cz3 : List V := (wrCells [(V.int Go.IntKind.i64 (0 : Int)), (V.int Go.IntKind.i64 (0 : Int))] 0 (V.cells rz1));
 ((0 < (List.length cz3) ∧ V.isInt Go.IntKind.i64 (gv cz3 0) = true) ∧ (let iz4 : Int := (Go.IntKind.wrap Go.IntKind.i64 (x - (V.num (gv cz3 0))));
 ((1 < (List.length cz3) ∧ V.isInt Go.IntKind.i64 (gv cz3 1) = true) ∧ (((V.num (gv cz3 1)) ≠ 0) ∧ (let iz5 : Int := (Int.tmod iz4 (V.num (gv cz3 1)));
 (let iz6 : Int := (Go.IntKind.wrap Go.IntKind.i64 (x - iz5));
 (Q Ex.ret ⟨[V.undef, V.undef, V.undef, V.undef, (V.int Go.IntKind.i64 iz6), V.undef, V.undef, V.undef, V.undef, V.undef, V.undef, V.undef, V.undef, V.undef, V.undef, V.undef, V.undef, V.undef], []⟩ hz2))))))))))))) := wpA_at f64_n_plug (by kernel_rfl)
theorem f64_end1 (x0 : Int) (h : Heap) (K : V → Heap → Prop) : bodyK Try.prog Try.f64 K Ex.ret ⟨[V.undef, V.undef, V.undef, V.undef, (V.int Go.IntKind.i64 x0), V.undef, V.undef, V.undef, V.undef, V.undef, V.undef, V.undef, V.undef, V.undef, V.undef, V.undef, V.undef, V.undef], []⟩ h = (K (V.int Go.IntKind.i64 x0) h) := by kernel_rfl
end

section
set_option linter.all false
set_option maxRecDepth 100000
open Go Go.Proofs Jb
def f50_cf : Cfg := ⟨[], [(0, [4]), (1, [0, 1, 5, 6, 7, 8, 9, 10, 11, 12, 13, 14])]⟩
noncomputable def f50_b : Code := bodyOf Try.f50
noncomputable def f50_n : Code :=  (codeAt [] f50_b)
noncomputable def f50_n1 : Code := hide (codeAt [1] f50_b)
noncomputable def f50_n10 : Code := hide (codeAt [1, 0] f50_b)
noncomputable def f50_n11 : Code := hide (codeAt [1, 1] f50_b)
theorem f50_entry (t : List (List V)) (t_g : G) (x : Int) (h : Heap) (K : V → Heap → Prop) : bodyW Try.prog f50_cf Try.f50 [(V.sl 2 t t_g), (V.int Go.IntKind.i64 x)] h K = wpA Try.prog f50_cf f50_n ⟨[(V.sl 2 t t_g), (V.int Go.IntKind.i64 x), V.undef, V.undef, V.undef, V.undef, V.undef, V.undef, V.undef, V.undef, V.undef, V.undef, V.undef, V.undef, V.undef], []⟩ h (bodyK Try.prog Try.f50 K) := by kernel_rfl
theorem f50_n_plug : f50_n = (plug [1] (codeAt [] f50_b) f50_n1) := by
  simp only [f50_n, f50_n1, hide_eq]
  try kernel_rfl
theorem f50_n_wp (t : List (List V)) (t_g : G) (x : Int) (h : Heap) (Q : Ex → Fr → Heap → Prop) : wpA Try.prog f50_cf f50_n ⟨[(V.sl 2 t t_g), (V.int Go.IntKind.i64 x), V.undef, V.undef, V.undef, V.undef, V.undef, V.undef, V.undef, V.undef, V.undef, V.undef, V.undef, V.undef, V.undef], []⟩ h Q =
 (wpA Try.prog f50_cf f50_n1 ⟨[(V.sl 2 t t_g), (V.int Go.IntKind.i64 x), V.undef, V.undef, V.undef, V.undef, V.undef, V.undef, V.undef, V.undef, V.undef, V.undef, V.undef, V.undef, V.undef], []⟩ h Q) := wpA_at f50_n_plug (by kernel_rfl)
theorem f50_n1_eq : f50_n1 = Code.seq f50_n10 f50_n11 := by
  simp only [f50_n1, f50_n10, f50_n11, hide_eq]
  kernel_rfl
theorem f50_n10_plug : f50_n10 = (codeAt [1, 0] f50_b) := by
  simp only [f50_n10, hide_eq]
  try kernel_rfl
theorem f50_n10_wp (e0 : List (List V)) (g1 : G) (x2 : Int) (h : Heap) (Q : Ex → Fr → Heap → Prop) : wpA Try.prog f50_cf f50_n10 ⟨[(V.sl 2 e0 g1), (V.int Go.IntKind.i64 x2), V.undef, V.undef, V.undef, V.undef, V.undef, V.undef, V.undef, V.undef, V.undef, V.undef, V.undef, V.undef, V.undef], []⟩ h Q =
 (AnyW Try.prog 63 [(V.sl 2 e0 g1), (V.int Go.IntKind.i64 x2)] h (fun (rz1 : V) (hz2 : Heap) =>
 ((True ∧ V.isBool rz1 = true) ∧ (let kz3 : Int → Heap → Prop := fun (xz4 : Int) (hz5 : Heap) =>
 (((V.flag rz1) = true → (V.flag rz1) = true) ∧ (((V.flag rz1) = true → (V.flag rz1) = true) ∧ ((((V.flag rz1) = true → (V.flag rz1) = true) ∧ True) ∧ (let bz6 : Bool := (cond (V.flag rz1) (xz4 == x2) false);
 (Q Ex.normal ⟨[V.undef, V.undef, V.undef, V.undef, (V.bool bz6), V.undef, V.undef, V.undef, V.undef, V.undef, V.undef, V.undef, V.undef, V.undef, V.undef], []⟩ hz5)))));
 brW (V.flag rz1)
 (((V.flag rz1) = true) ∧ (((V.flag rz1) = true) ∧ (AnyW Try.prog 64 [(V.sl 2 e0 g1), (V.int Go.IntKind.i64 x2)] hz2 (fun (rz7 : V) (hz8 : Heap) =>
 ((True ∧ V.isInt Go.IntKind.i64 rz7 = true) ∧ (kz3 (V.num rz7) hz8))))))
 (kz3 (0 : Int) hz2))))) := wpA_at f50_n10_plug (by kernel_rfl)
theorem f50_n11_plug : f50_n11 = (codeAt [1, 1] f50_b) := by
  simp only [f50_n11, hide_eq]
  try kernel_rfl
theorem f50_n11_wp (b0 : Bool) (h : Heap) (Q : Ex → Fr → Heap → Prop) : wpA Try.prog f50_cf f50_n11 ⟨[V.undef, V.undef, V.undef, V.undef, (V.bool b0), V.undef, V.undef, V.undef, V.undef, V.undef, V.undef, V.undef, V.undef, V.undef, V.undef], []⟩ h Q =
 (Q Ex.ret ⟨[V.undef, V.undef, V.undef, V.undef, (V.bool b0), V.undef, V.undef, V.undef, V.undef, V.undef, V.undef, V.undef, V.undef, V.undef, V.undef], []⟩ h) := wpA_at f50_n11_plug (by kernel_rfl)
theorem f50_end1 (b0 : Bool) (h : Heap) (K : V → Heap → Prop) : bodyK Try.prog Try.f50 K Ex.ret ⟨[V.undef, V.undef, V.undef, V.undef, (V.bool b0), V.undef, V.undef, V.undef, V.undef, V.undef, V.undef, V.undef, V.undef, V.undef, V.undef], []⟩ h = (K (V.bool b0) h) := by kernel_rfl
end

section
set_option linter.all false
set_option maxRecDepth 100000
open Go Go.Proofs Jb
def f51_cf : Cfg := ⟨[], [(0, [4]), (1, [6, 7, 8, 9, 10, 11]), (2, [0, 1, 5]), (3, [0, 1, 5, 13, 14, 15, 16, 17, 18, 19, 20, 21, 22, 23, 24]), (4, [12]), (5, [12])]⟩
noncomputable def f51_b : Code := bodyOf Try.f51
noncomputable def f51_n : Code :=  (codeAt [] f51_b)
theorem f51_entry (x : Int) (y : Int) (h : Heap) (K : V → Heap → Prop) : bodyW Try.prog f51_cf Try.f51 [(V.int Go.IntKind.i64 x), (V.int Go.IntKind.i64 y)] h K = wpA Try.prog f51_cf f51_n ⟨[(V.int Go.IntKind.i64 x), (V.int Go.IntKind.i64 y), V.undef, V.undef, V.undef, V.undef, V.undef, V.undef, V.undef, V.undef, V.undef, V.undef, V.undef, V.undef, V.undef, V.undef, V.undef, V.undef, V.undef, V.undef, V.undef, V.undef, V.undef, V.undef, V.undef], []⟩ h (bodyK Try.prog Try.f51 K) := by kernel_rfl
theorem f51_n_plug : f51_n = (codeAt [] f51_b) := by
  simp only [f51_n, hide_eq]
  try kernel_rfl
theorem f51_n_wp (x : Int) (y : Int) (h : Heap) (Q : Ex → Fr → Heap → Prop) : wpA Try.prog f51_cf f51_n ⟨[(V.int Go.IntKind.i64 x), (V.int Go.IntKind.i64 y), V.undef, V.undef, V.undef, V.undef, V.undef, V.undef, V.undef, V.undef, V.undef, V.undef, V.undef, V.undef, V.undef, V.undef, V.undef, V.undef, V.undef, V.undef, V.undef, V.undef, V.undef, V.undef, V.undef], []⟩ h Q =
 (let bz1 : Bool := (!(decide (x < (1 : Int))));
 (((!(decide (x < (1 : Int)))) = true → bz1 = true) ∧ (let bz2 : Bool := (!(decide (x < (1 : Int))));
 (let bz3 : Bool := (decide ((1099511627776 : Int) < x));
 ((((decide (x < (1 : Int))) = false → bz2 = true) ∧ True) ∧ (let bz4 : Bool := (cond (decide (x < (1 : Int))) true bz3);
 (brW bz4
 (Q Ex.ret ⟨[V.undef, V.undef, V.undef, V.undef, (V.int Go.IntKind.i64 (2 : Int)), V.undef, V.undef, V.undef, V.undef, V.undef, V.undef, V.undef, V.undef, V.undef, V.undef, V.undef, V.undef, V.undef, V.undef, V.undef, V.undef, V.undef, V.undef, V.undef, V.undef], []⟩ h)
 (let bz5 : Bool := (!(decide (y < (1 : Int))));
 (((!(decide (y < (1 : Int)))) = true → bz5 = true) ∧ (let bz6 : Bool := (!(decide (y < (1 : Int))));
 (let bz7 : Bool := (decide ((1099511627776 : Int) < y));
 ((((decide (y < (1 : Int))) = false → bz6 = true) ∧ True) ∧ (let bz8 : Bool := (cond (decide (y < (1 : Int))) true bz7);
 (((!bz8) = true → (!bz8) = true) ∧ (((!bz8) = true → (!bz8) = true) ∧ (((!bz8) = true → (x ≠ 0)) ∧ (((!bz8) = true → (!bz8) = true) ∧ (let bz9 : Bool := ((Int.tmod y x) != (0 : Int));
 (((bz8 = false → (!bz8) = true) ∧ True) ∧ (brW (cond bz8 true bz9)
 (Q Ex.ret ⟨[V.undef, V.undef, V.undef, V.undef, (V.int Go.IntKind.i64 (41 : Int)), V.undef, V.undef, V.undef, V.undef, V.undef, V.undef, V.undef, V.undef, V.undef, V.undef, V.undef, V.undef, V.undef, V.undef, V.undef, V.undef, V.undef, V.undef, V.undef, V.undef], []⟩ h)
 (Q Ex.ret ⟨[V.undef, V.undef, V.undef, V.undef, (V.int Go.IntKind.i64 (0 : Int)), V.undef, V.undef, V.undef, V.undef, V.undef, V.undef, V.undef, V.undef, V.undef, V.undef, V.undef, V.undef, V.undef, V.undef, V.undef, V.undef, V.undef, V.undef, V.undef, V.undef], []⟩ h))))))))))))))))))))) := wpA_at f51_n_plug (by kernel_rfl)
theorem f51_end1 (x0 : Int) (h : Heap) (K : V → Heap → Prop) : bodyK Try.prog Try.f51 K Ex.ret ⟨[V.undef, V.undef, V.undef, V.undef, (V.int Go.IntKind.i64 x0), V.undef, V.undef, V.undef, V.undef, V.undef, V.undef, V.undef, V.undef, V.undef, V.undef, V.undef, V.undef, V.undef, V.undef, V.undef, V.undef, V.undef, V.undef, V.undef, V.undef], []⟩ h = (K (V.int Go.IntKind.i64 x0) h) := by kernel_rfl
end

section
open Go Go.Proofs Jb
set_option linter.unusedSimpArgs false

theorem good_any (t : List Tk) (g : G) (hl : t.length < 1000000) {h : Heap} {K : V → Heap → Prop} (m : K (.bool (tickOk t)) h) : AnyW Try.prog 74 [.sl 2 (tks t) g] h K := AnyW.eq (by kernel_rfl) (good_call t g hl h) m

/-- May a price be asked for? -/
def mayT (t : List Tk) (x : Int) : Bool := tickOk t && decide (1 ≤ x ∧ x ≤ 1099511627776)
theorem may_call (t : List Tk) (g : G) (x : Int) (hl : t.length < 1000000) (h : Heap) : CallW Try.prog 63 [.sl 2 (tks t) g, .int .i64 x] h (fun r h' => r = .bool (mayT t x) ∧ h' = h) := by
  refine CallW.body mix f63_cf Try.func63 (by rw [Try.ntmps63]; simp) ?_
  rw [f63_entry, f63_n_wp]
  refine good_any t g hl ⟨⟨trivial, rfl⟩, ?_⟩
  unfold mayT
  cases tickOk t <;> by_cases c1 : 1 ≤ x <;> by_cases c2 : x ≤ 1099511627776 <;> simp [c1, c2, f63_end1]
theorem may_any (t : List Tk) (g : G) (x : Int) (hl : t.length < 1000000) {h : Heap} {K : V → Heap → Prop} (m : K (.bool (mayT t x)) h) : AnyW Try.prog 63 [.sl 2 (tks t) g, .int .i64 x] h K := AnyW.eq (by kernel_rfl) (may_call t g x hl h) m

theorem over_any (x : Tk) (l : Nat) (p : Int) {h : Heap} (hh : h l = some (.cells [.int .i64 p])) {K : V → Heap → Prop} (m : K (.bool (decide (p < x.1))) h) : AnyW Try.prog 84 [.agg [.int .i64 x.1, .int .i64 x.2], .ptr l 0] h K := by
  refine AnyW.of (by kernel_rfl) (K0 := fun r h' => r = .bool (decide (p < x.1)) ∧ h' = h) (CallW.body mix f84_cf Try.func84 (by rw [Try.ntmps84]; simp) ?_) (fun r h' e => by obtain ⟨rfl, rfl⟩ := e; exact m)
  rw [f84_entry, f84_n_wp]
  have e : cellsAt h l = [.int .i64 p] := by simp [cellsAt, hh]
  simp [e, f84_end1]

theorem idx_call (t : List Tk) (g : G) (l : Nat) (p : Int) (hl : t.length < 1000000) (h : Heap) (hh : h l = some (.cells [.int .i64 p])) : CallW Try.prog 83 [.sl 2 (tks t) g, .fn (Fn.func 84) [] [.ptr l 0]] h
    (fun r h' => (∃ i, i ≤ t.length ∧ (∀ q, q < i → (tk t q).1 ≤ p) ∧ (i < t.length → p < (tk t i).1) ∧ r = .int .i64 (if i < t.length then (i : Int) else -1)) ∧ h' = h) := by
  refine CallW.body mix f83_cf Try.func83 (by rw [Try.ntmps83]; simp) ?_
  rw [f83_entry, f83_n_wp, f83_n1_eq, wpA_seq, f83_n10_wp, f83_n1010_eq]
  refine wpA_loop (σ := Nat) (fun i => f83_n10100_F (tks t) g l t.length i) (fun _ => h) (fun i => t.length - i) (fun i => i ≤ t.length ∧ ∀ q, q < i → (tk t q).1 ≤ p) 0 (by simp [f83_n10100_F]) rfl ⟨by omega, fun q hq => by omega⟩ ?_
  rintro i ⟨g1, g2⟩
  simp only [f83_n10100_F]
  rw [f83_n10100_wp]
  by_cases d1 : i < t.length
  · simp only [show decide ((i : Int) < (t.length : Int)) = true from decide_eq_true (by omega), brW_true, tks_len, Int.toNat_natCast, tks_get t d1, List.drop_zero, List.take, List.length_cons, List.length_nil, wadd1 i (by omega)]
    refine ⟨by omega, by omega, ?_⟩
    refine over_any (tk t i) l p hh ⟨⟨trivial, rfl⟩, ?_⟩
    simp only [flag_bool]
    by_cases c : p < (tk t i).1
    · rw [decide_eq_true c, brW_true]
      simp only [seqK_ret, blockK_ret]
      rw [f83_end1]
      exact ⟨⟨i, g1, g2, fun _ => c, by rw [if_pos d1]⟩, rfl⟩
    · rw [decide_eq_false c, brW_false]
      refine ⟨i + 1, rfl, rfl, ⟨by omega, fun q hq => ?_⟩, by omega⟩
      by_cases e : q = i
      · rw [e]; omega
      · exact g2 q (by omega)
  · rw [show decide ((i : Int) < (t.length : Int)) = false from decide_eq_false (by omega), brW_false]
    simp only [seqK_exit, blockK_exit, if_true, seqK_normal]
    rw [f83_n11_wp, f83_end1]
    exact ⟨⟨i, g1, g2, fun c => (d1 c).elim, by rw [if_neg d1]⟩, rfl⟩

/-- A price's row. -/
def IsRow (t : List Tk) (p : Int) (j : Nat) : Prop := j < t.length ∧ (∀ q, q ≤ j → (tk t q).1 ≤ p) ∧ (j + 1 < t.length → p < (tk t (j + 1)).1)
theorem IsRow.uniq {t : List Tk} {p : Int} {i j : Nat} (a : IsRow t p i) (b : IsRow t p j) : i = j := by
  obtain ⟨a1, a2, a3⟩ := a
  obtain ⟨b1, b2, b3⟩ := b
  rcases Nat.lt_trichotomy i j with h | h | h
  · have := a3 (by omega); have := b2 (i + 1) (by omega); omega
  · exact h
  · have := b3 (by omega); have := a2 (j + 1) (by omega); omega
open Classical in
noncomputable def rowI (t : List Tk) (p : Int) : Nat := if h : ∃ j, IsRow t p j then h.choose else 0
theorem rowI_eq {t : List Tk} {p : Int} {j : Nat} (a : IsRow t p j) : rowI t p = j := by
  unfold rowI
  rw [dif_pos ⟨j, a⟩]
  exact (Exists.choose_spec (⟨j, a⟩ : ∃ j, IsRow t p j)).uniq a

theorem row_call (t : List Tk) (g : G) (p : Int) (hl : t.length < 1000000) (ht : mayT t p = true) (h : Heap) : CallW Try.prog 75 [.sl 2 (tks t) g, .int .i64 p] h
    (fun r h' => IsRow t p (rowI t p) ∧ r = .agg [.int .i64 (tk t (rowI t p)).1, .int .i64 (tk t (rowI t p)).2] ∧ h.Sub h') := by
  unfold mayT at ht
  rw [Bool.and_eq_true, decide_eq_true_eq] at ht
  obtain ⟨ht, hp⟩ := ht
  obtain ⟨⟨t1, t2, t3⟩, t4⟩ := (tickOk_iff t).1 ht
  refine CallW.body mix f75_cf Try.func75 (by rw [Try.ntmps75]; simp) ?_
  rw [f75_entry, f75_n_wp]
  refine ⟨trivial, fun l hn => ⟨trivial, ?_⟩⟩
  refine AnyW.of (by kernel_rfl) (idx_call t g l p hl _ (by simp)) ?_
  rintro r h' ⟨⟨i, i1, i2, i3, rfl⟩, rfl⟩
  refine ⟨⟨trivial, rfl⟩, ?_⟩
  have i0 : 0 < i := by
    rcases Nat.eq_zero_or_pos i with e | e
    · subst e; have := i3 t1; omega
    · exact e
  have hr : IsRow t p (i - 1) := ⟨by omega, fun q hq => i2 q (by omega), fun c => by have := i3 (by omega); rwa [show i - 1 + 1 = i from by omega]⟩
  have hs : h.Sub (h.upd l (.cells [.int .i64 p])) := Heap.sub_new hn (Heap.sub_rfl h)
  have hi : rowI t p = i - 1 := rowI_eq hr
  have lt : i - 1 < t.length := by omega
  rw [f75_n11_eq, wpA_seq, f75_n110_wp]
  simp only [num_int]
  by_cases c : i < t.length
  · simp only [if_pos c, show decide ((i : Int) < 0) = false from decide_eq_false (by omega), brW_false, seqK_normal]
    rw [f75_n111s1_wp]
    simp only [wsub1 i i0 (by omega), tks_len, Int.toNat_natCast, tks_get t lt, List.drop_zero, List.take, List.length_cons, List.length_nil, wrCells, List.drop_succ_cons, List.nil_append, List.append_nil, List.cons_append]
    refine ⟨by omega, by omega, trivial, by omega, ?_⟩
    rw [f75_end1]
    simp only [List.drop_zero, List.take, List.length_cons, List.length_nil]
    exact ⟨by omega, by rw [hi]; exact hr, by rw [hi], hs⟩
  · simp only [if_neg c, show decide ((-1 : Int) < 0) = true from rfl, brW_true, seqK_normal]
    obtain rfl : i = t.length := by omega
    rw [f75_n111_wp]
    simp only [tks_len, wsub1 t.length i0 (by omega), Int.toNat_natCast, tks_get t lt, List.drop_zero, List.take, List.length_cons, List.length_nil, wrCells, List.drop_succ_cons, List.nil_append, List.append_nil, List.cons_append]
    refine ⟨by omega, by omega, trivial, by omega, ?_⟩
    rw [f75_end1]
    simp only [List.drop_zero, List.take, List.length_cons, List.length_nil]
    exact ⟨by omega, by rw [hi]; exact hr, by rw [hi], hs⟩

/-- Is a price on the grid? -/
noncomputable def onT (t : List Tk) (p : Int) : Bool := mayT t p && decide (Int.tmod (p - (tk t (rowI t p)).1) (tk t (rowI t p)).2 = 0)

theorem mayT_row {t : List Tk} {p : Int} (ht : mayT t p = true) (hr : IsRow t p (rowI t p)) : 0 ≤ (tk t (rowI t p)).1 ∧ (tk t (rowI t p)).1 ≤ p ∧ p ≤ 1099511627776 ∧ 1 ≤ (tk t (rowI t p)).2 := by
  unfold mayT at ht
  rw [Bool.and_eq_true, decide_eq_true_eq] at ht
  obtain ⟨ht, hp⟩ := ht
  obtain ⟨⟨t1, t2, t3⟩, t4⟩ := (tickOk_iff t).1 ht
  have pos : ∀ i, i < t.length → 0 ≤ (tk t i).1 := by
    intro i
    induction i with
    | zero => intro _; omega
    | succ i ih =>
      intro hi
      have := t4 (i + 1) hi
      unfold rowOk at this
      rw [decide_eq_true_eq] at this
      have h4 := this.2.2.2 (by omega)
      rw [Nat.add_sub_cancel] at h4
      have := ih (by omega)
      omega
  obtain ⟨r1, r2, r3⟩ := hr
  have := t4 _ r1
  unfold rowOk at this
  rw [decide_eq_true_eq] at this
  exact ⟨pos _ r1, r2 _ (Nat.le_refl _), hp.2, this.1⟩

theorem floor_call (t : List Tk) (g : G) (p : Int) (hl : t.length < 1000000) (ht : mayT t p = true) (h : Heap) : CallW Try.prog 64 [.sl 2 (tks t) g, .int .i64 p] h
    (fun r h' => IsRow t p (rowI t p) ∧ r = .int .i64 (p - Int.tmod (p - (tk t (rowI t p)).1) (tk t (rowI t p)).2) ∧ h.Sub h') := by
  refine CallW.body mix f64_cf Try.func64 (by rw [Try.ntmps64]; simp) ?_
  rw [f64_entry, f64_n_wp]
  refine AnyW.of (by kernel_rfl) (row_call t g p hl ht h) ?_
  rintro r h' ⟨hr, rfl, hs⟩
  obtain ⟨m1, m2, m3, m4⟩ := mayT_row ht hr
  generalize (tk t (rowI t p)).1 = a at *
  generalize (tk t (rowI t p)).2 = b at *
  have e1 : IntKind.i64.wrap (p - a) = p - a := by rw [Go.IntWalk.i64_in] <;> omega
  have q1 : 0 ≤ Int.tmod (p - a) b := Int.tmod_nonneg _ (by omega)
  have q2 : Int.tmod (p - a) b ≤ p - a := by
    rw [Int.tmod_eq_emod_of_nonneg (by omega)]
    have h1 := Int.mul_ediv_add_emod (p - a) b
    have h2 : 0 ≤ b * ((p - a) / b) := Int.mul_nonneg (by omega) (Int.ediv_nonneg (by omega) (by omega))
    generalize b * ((p - a) / b) = u at h1 h2
    omega
  have e2 : IntKind.i64.wrap (p - Int.tmod (p - a) b) = p - Int.tmod (p - a) b := by rw [Go.IntWalk.i64_in] <;> omega
  simp [wrCells, e1, e2, f64_end1, show b ≠ 0 from by omega, hr, hs]

theorem on_call (t : List Tk) (g : G) (p : Int) (hl : t.length < 1000000) (h : Heap) : CallW Try.prog 50 [.sl 2 (tks t) g, .int .i64 p] h (fun r h' => r = .bool (onT t p) ∧ h.Sub h') := by
  refine CallW.body mix f50_cf Try.func50 (by rw [Try.ntmps50]; simp) ?_
  rw [f50_entry, f50_n_wp, f50_n1_eq, wpA_seq, f50_n10_wp]
  refine may_any t g p hl ⟨⟨trivial, rfl⟩, ?_⟩
  simp only [flag_bool]
  cases c : mayT t p with
  | false =>
    have : onT t p = false := by unfold onT; rw [c]; rfl
    simp [f50_n11_wp, f50_end1, this, Heap.sub_rfl]
  | true =>
    simp only [brW_true, true_and]
    refine AnyW.of (by kernel_rfl) (floor_call t g p hl c h) ?_
    rintro r h' ⟨hr, rfl, hs⟩
    have : onT t p = (p - Int.tmod (p - (tk t (rowI t p)).1) (tk t (rowI t p)).2 == p) := by
      unfold onT
      rw [c, Bool.true_and, beq_dec]
      congr 1
      apply propext
      omega
    simp [f50_n11_wp, f50_end1, this, hs]
theorem on_any (t : List Tk) (g : G) (p : Int) (hl : t.length < 1000000) {h : Heap} {K : V → Heap → Prop} (m : ∀ h', h.Sub h' → K (.bool (onT t p)) h') : AnyW Try.prog 50 [.sl 2 (tks t) g, .int .i64 p] h K :=
  AnyW.of (by kernel_rfl) (on_call t g p hl h) (fun r h' e => by obtain ⟨rfl, e⟩ := e; exact m h' e)

/-- May a quantity be? -/
def lotW (lot qty : Int) : Int := if lot < 1 ∨ 1099511627776 < lot then 2 else if qty < 1 ∨ 1099511627776 < qty ∨ Int.tmod qty lot ≠ 0 then 41 else 0
theorem lot_call (x y : Int) (h : Heap) : CallW Try.prog 51 [.int .i64 x, .int .i64 y] h (fun r h' => r = .int .i64 (lotW x y) ∧ h' = h) := by
  refine CallW.body mix f51_cf Try.func51 (by rw [Try.ntmps51]; simp) ?_
  rw [f51_entry, f51_n_wp]
  unfold lotW
  by_cases c1 : x < 1
  · simp [c1, f51_end1]
  · by_cases c2 : 1099511627776 < x
    · simp [c1, c2, f51_end1]
    · by_cases c3 : y < 1
      · simp [c1, c2, c3, f51_end1]
      · by_cases c4 : 1099511627776 < y
        · simp [c1, c2, c3, c4, f51_end1]
        · by_cases c5 : Int.tmod y x = 0
          · simp [c1, c2, c3, c4, c5, f51_end1, show ¬ x = 0 from by omega]
          · simp [c1, c2, c3, c4, c5, f51_end1, show ¬ x = 0 from by omega, show (Int.tmod y x != 0) = true from by rw [bne_iff_ne]; exact c5]
theorem lot_any (x y : Int) {h : Heap} {K : V → Heap → Prop} (m : K (.int .i64 (lotW x y)) h) : AnyW Try.prog 51 [.int .i64 x, .int .i64 y] h K := AnyW.eq (by kernel_rfl) (lot_call x y h) m
end

section
set_option linter.all false
set_option maxRecDepth 100000
open Go Go.Proofs Jb
def f76_cf : Cfg := ⟨[], [(0, [2]), (1, [4, 5, 6, 7, 8, 9, 10, 11, 12, 13, 14, 15, 16, 17]), (2, [0, 18]), (3, [18]), (4, [19, 20, 21]), (5, [23, 24, 64]), (6, [22, 25, 26, 27, 28, 29, 30, 31, 32, 33, 34, 35, 36, 37, 38, 39, 40, 41, 42, 43, 44, 45, 46, 47, 48, 49, 50, 51, 52, 53, 54, 55, 56, 57, 58, 59, 60, 61, 62, 63]), (7, [0, 3, 64]), (8, [0, 3, 22])]⟩
noncomputable def f76_b : Code := bodyOf Try.f76
noncomputable def f76_n : Code :=  (codeAt [] f76_b)
noncomputable def f76_n11 : Code := hide (codeAt [1, 1] f76_b)
noncomputable def f76_n110 : Code := hide (codeAt [1, 1, 0] f76_b)
noncomputable def f76_n11010 : Code := hide (codeAt [1, 1, 0, 1, 0] f76_b)
noncomputable def f76_n110100 : Code := hide (codeAt [1, 1, 0, 1, 0, 0] f76_b)
noncomputable def f76_n111 : Code := hide (codeAt [1, 1, 1] f76_b)
theorem f76_entry (t : List (List V)) (t_g : G) (h : Heap) (K : V → Heap → Prop) : bodyW Try.prog f76_cf Try.f76 [(V.sl 2 t t_g)] h K = wpA Try.prog f76_cf f76_n ⟨[(V.sl 2 t t_g), V.undef, V.undef, V.undef, V.undef, V.undef, V.undef, V.undef, V.undef, V.undef, V.undef, V.undef, V.undef, V.undef, V.undef, V.undef, V.undef, V.undef, V.undef, V.undef, V.undef, V.undef, V.undef, V.undef, V.undef, V.undef, V.undef, V.undef, V.undef, V.undef, V.undef, V.undef, V.undef, V.undef, V.undef, V.undef, V.undef, V.undef, V.undef, V.undef, V.undef, V.undef, V.undef, V.undef, V.undef, V.undef, V.undef, V.undef, V.undef, V.undef, V.undef, V.undef, V.undef, V.undef, V.undef, V.undef, V.undef, V.undef, V.undef, V.undef, V.undef, V.undef, V.undef, V.undef, V.undef], []⟩ h (bodyK Try.prog Try.f76 K) := by kernel_rfl
theorem f76_n_plug : f76_n = (plug [1, 1] (codeAt [] f76_b) f76_n11) := by
  simp only [f76_n, f76_n11, hide_eq]
  try kernel_rfl
theorem f76_n_wp (t : List (List V)) (t_g : G) (h : Heap) (Q : Ex → Fr → Heap → Prop) : wpA Try.prog f76_cf f76_n ⟨[(V.sl 2 t t_g), V.undef, V.undef, V.undef, V.undef, V.undef, V.undef, V.undef, V.undef, V.undef, V.undef, V.undef, V.undef, V.undef, V.undef, V.undef, V.undef, V.undef, V.undef, V.undef, V.undef, V.undef, V.undef, V.undef, V.undef, V.undef, V.undef, V.undef, V.undef, V.undef, V.undef, V.undef, V.undef, V.undef, V.undef, V.undef, V.undef, V.undef, V.undef, V.undef, V.undef, V.undef, V.undef, V.undef, V.undef, V.undef, V.undef, V.undef, V.undef, V.undef, V.undef, V.undef, V.undef, V.undef, V.undef, V.undef, V.undef, V.undef, V.undef, V.undef, V.undef, V.undef, V.undef, V.undef, V.undef], []⟩ h Q =
 (let bz1 : Bool := (decide (((List.length t) : Int) < (1 : Int)));
 (((!bz1) = true → (!bz1) = true) ∧ (((!bz1) = true → (!bz1) = true) ∧ (let bz2 : Bool := (decide ((8 : Int) < ((List.length t) : Int)));
 (((bz1 = false → (!bz1) = true) ∧ True) ∧ (((!(cond bz1 true bz2)) = true → (!(cond bz1 true bz2)) = true) ∧ (((!(cond bz1 true bz2)) = true → (0 ≤ (0 : Int) ∧ (0 : Int) < (List.length t))) ∧ (((!(cond bz1 true bz2)) = true → (!(cond bz1 true bz2)) = true) ∧ (((!(cond bz1 true bz2)) = true → (!(cond bz1 true bz2)) = true) ∧ (((!(cond bz1 true bz2)) = true → (0 < (List.length (ge t 0)) ∧ V.isInt Go.IntKind.i64 (gv (ge t 0) 0) = true)) ∧ (((!(cond bz1 true bz2)) = true → (!(cond bz1 true bz2)) = true) ∧ (let bz3 : Bool := ((V.num (gv (ge t 0) 0)) != (0 : Int));
 ((((cond bz1 true bz2) = false → (!(cond bz1 true bz2)) = true) ∧ True) ∧ (let bz4 : Bool := (cond (cond bz1 true bz2) true bz3);
 (brW bz4
 (Q Ex.ret ⟨[V.undef, V.undef, (V.bool false), V.undef, V.undef, V.undef, V.undef, V.undef, V.undef, V.undef, V.undef, V.undef, V.undef, V.undef, V.undef, V.undef, V.undef, V.undef, V.undef, V.undef, V.undef, V.undef, V.undef, V.undef, V.undef, V.undef, V.undef, V.undef, V.undef, V.undef, V.undef, V.undef, V.undef, V.undef, V.undef, V.undef, V.undef, V.undef, V.undef, V.undef, V.undef, V.undef, V.undef, V.undef, V.undef, V.undef, V.undef, V.undef, V.undef, V.undef, V.undef, V.undef, V.undef, V.undef, V.undef, V.undef, V.undef, V.undef, V.undef, V.undef, V.undef, V.undef, V.undef, V.undef, V.undef], []⟩ h)
 (wpA Try.prog f76_cf f76_n11 ⟨[(V.sl 2 t t_g), V.undef, V.undef, V.undef, V.undef, V.undef, V.undef, V.undef, V.undef, V.undef, V.undef, V.undef, V.undef, V.undef, V.undef, V.undef, V.undef, V.undef, (V.bool bz4), V.undef, V.undef, V.undef, V.undef, V.undef, V.undef, V.undef, V.undef, V.undef, V.undef, V.undef, V.undef, V.undef, V.undef, V.undef, V.undef, V.undef, V.undef, V.undef, V.undef, V.undef, V.undef, V.undef, V.undef, V.undef, V.undef, V.undef, V.undef, V.undef, V.undef, V.undef, V.undef, V.undef, V.undef, V.undef, V.undef, V.undef, V.undef, V.undef, V.undef, V.undef, V.undef, V.undef, V.undef, V.undef, V.undef], []⟩ h Q)))))))))))))))) := wpA_at f76_n_plug (by kernel_rfl)
theorem f76_n11_eq : f76_n11 = Code.seq f76_n110 f76_n111 := by
  simp only [f76_n11, f76_n110, f76_n111, hide_eq]
  kernel_rfl
theorem f76_n110_plug : f76_n110 = (plug [1, 0] (codeAt [1, 1, 0] f76_b) f76_n11010) := by
  simp only [f76_n110, f76_n11010, hide_eq]
  try kernel_rfl
theorem f76_n110_wp (e0 : List (List V)) (g1 : G) (b2 : Bool) (h : Heap) (Q : Ex → Fr → Heap → Prop) : wpA Try.prog f76_cf f76_n110 ⟨[(V.sl 2 e0 g1), V.undef, V.undef, V.undef, V.undef, V.undef, V.undef, V.undef, V.undef, V.undef, V.undef, V.undef, V.undef, V.undef, V.undef, V.undef, V.undef, V.undef, (V.bool b2), V.undef, V.undef, V.undef, V.undef, V.undef, V.undef, V.undef, V.undef, V.undef, V.undef, V.undef, V.undef, V.undef, V.undef, V.undef, V.undef, V.undef, V.undef, V.undef, V.undef, V.undef, V.undef, V.undef, V.undef, V.undef, V.undef, V.undef, V.undef, V.undef, V.undef, V.undef, V.undef, V.undef, V.undef, V.undef, V.undef, V.undef, V.undef, V.undef, V.undef, V.undef, V.undef, V.undef, V.undef, V.undef, V.undef], []⟩ h Q =
 (wpA Try.prog f76_cf f76_n11010 ⟨[(V.sl 2 e0 g1), V.undef, V.undef, (V.int Go.IntKind.i64 (0 : Int)), V.undef, V.undef, V.undef, V.undef, V.undef, V.undef, V.undef, V.undef, V.undef, V.undef, V.undef, V.undef, V.undef, V.undef, V.undef, V.undef, V.undef, V.undef, V.undef, V.undef, V.undef, V.undef, V.undef, V.undef, V.undef, V.undef, V.undef, V.undef, V.undef, V.undef, V.undef, V.undef, V.undef, V.undef, V.undef, V.undef, V.undef, V.undef, V.undef, V.undef, V.undef, V.undef, V.undef, V.undef, V.undef, V.undef, V.undef, V.undef, V.undef, V.undef, V.undef, V.undef, V.undef, V.undef, V.undef, V.undef, V.undef, V.undef, V.undef, V.undef, V.undef], []⟩ h (blockK 0 Q)) := wpA_at f76_n110_plug (by kernel_rfl)
theorem f76_n11010_eq : f76_n11010 = Code.loop f76_n110100 := by
  simp only [f76_n11010, f76_n110100, hide_eq]
  kernel_rfl
def f76_n110100_F (e0 : List (List V)) (g1 : G) (x2 : Int) : Fr := ⟨[(V.sl 2 e0 g1), V.undef, V.undef, (V.int Go.IntKind.i64 x2), V.undef, V.undef, V.undef, V.undef, V.undef, V.undef, V.undef, V.undef, V.undef, V.undef, V.undef, V.undef, V.undef, V.undef, V.undef, V.undef, V.undef, V.undef, V.undef, V.undef, V.undef, V.undef, V.undef, V.undef, V.undef, V.undef, V.undef, V.undef, V.undef, V.undef, V.undef, V.undef, V.undef, V.undef, V.undef, V.undef, V.undef, V.undef, V.undef, V.undef, V.undef, V.undef, V.undef, V.undef, V.undef, V.undef, V.undef, V.undef, V.undef, V.undef, V.undef, V.undef, V.undef, V.undef, V.undef, V.undef, V.undef, V.undef, V.undef, V.undef, V.undef], []⟩
theorem f76_n110100_plug : f76_n110100 = (codeAt [1, 1, 0, 1, 0, 0] f76_b) := by
  simp only [f76_n110100, hide_eq]
  try kernel_rfl
theorem f76_n110100_wp (e0 : List (List V)) (g1 : G) (x2 : Int) (h : Heap) (Q : Ex → Fr → Heap → Prop) : wpA Try.prog f76_cf f76_n110100 ⟨[(V.sl 2 e0 g1), V.undef, V.undef, (V.int Go.IntKind.i64 x2), V.undef, V.undef, V.undef, V.undef, V.undef, V.undef, V.undef, V.undef, V.undef, V.undef, V.undef, V.undef, V.undef, V.undef, V.undef, V.undef, V.undef, V.undef, V.undef, V.undef, V.undef, V.undef, V.undef, V.undef, V.undef, V.undef, V.undef, V.undef, V.undef, V.undef, V.undef, V.undef, V.undef, V.undef, V.undef, V.undef, V.undef, V.undef, V.undef, V.undef, V.undef, V.undef, V.undef, V.undef, V.undef, V.undef, V.undef, V.undef, V.undef, V.undef, V.undef, V.undef, V.undef, V.undef, V.undef, V.undef, V.undef, V.undef, V.undef, V.undef, V.undef], []⟩ h Q =
 (let bz5 : Bool := (decide (x2 < ((List.length e0) : Int)));
 (brW bz5
 ((0 ≤ x2 ∧ x2 < (List.length e0)) ∧ ((1 < (List.length (ge e0 (Int.toNat x2))) ∧ V.isInt Go.IntKind.i64 (gv (ge e0 (Int.toNat x2)) 1) = true) ∧ (let iz6 : Int := (V.num (gv (ge e0 (Int.toNat x2)) 1));
 (let bz7 : Bool := (decide (iz6 < (1 : Int)));
 (((!bz7) = true → (!bz7) = true) ∧ (((!bz7) = true → (!bz7) = true) ∧ (((!bz7) = true → (0 ≤ x2 ∧ x2 < (List.length e0))) ∧ (((!bz7) = true → (!bz7) = true) ∧ (((!bz7) = true → (!bz7) = true) ∧ (((!bz7) = true → (1 < (List.length (ge e0 (Int.toNat x2))) ∧ V.isInt Go.IntKind.i64 (gv (ge e0 (Int.toNat x2)) 1) = true)) ∧ (let iz8 : Int := (V.num (gv (ge e0 (Int.toNat x2)) 1));
 (((!bz7) = true → (!bz7) = true) ∧ (let bz9 : Bool := (decide ((1099511627776 : Int) < iz8));
 (((bz7 = false → (!bz7) = true) ∧ True) ∧ (((!(cond bz7 true bz9)) = true → (!(cond bz7 true bz9)) = true) ∧ (((!(cond bz7 true bz9)) = true → (!(cond bz7 true bz9)) = true) ∧ (((!(cond bz7 true bz9)) = true → (0 ≤ x2 ∧ x2 < (List.length e0))) ∧ (((!(cond bz7 true bz9)) = true → (!(cond bz7 true bz9)) = true) ∧ (((!(cond bz7 true bz9)) = true → (!(cond bz7 true bz9)) = true) ∧ (((!(cond bz7 true bz9)) = true → (0 < (List.length (ge e0 (Int.toNat x2))) ∧ V.isInt Go.IntKind.i64 (gv (ge e0 (Int.toNat x2)) 0) = true)) ∧ (let iz10 : Int := (V.num (gv (ge e0 (Int.toNat x2)) 0));
 (((!(cond bz7 true bz9)) = true → (!(cond bz7 true bz9)) = true) ∧ (let bz11 : Bool := (decide ((1099511627776 : Int) < iz10));
 ((((cond bz7 true bz9) = false → (!(cond bz7 true bz9)) = true) ∧ True) ∧ (let bz12 : Bool := (cond (cond bz7 true bz9) true bz11);
 (((!bz12) = true → (!bz12) = true) ∧ (let bz13 : Bool := (decide ((0 : Int) < x2));
 (((!bz12) = true → (!bz12) = true) ∧ ((((!bz12) && bz13) = true → ((!bz12) && bz13) = true) ∧ ((((!bz12) && bz13) = true → ((!bz12) && bz13) = true) ∧ ((((!bz12) && bz13) = true → (0 ≤ x2 ∧ x2 < (List.length e0))) ∧ ((((!bz12) && bz13) = true → ((!bz12) && bz13) = true) ∧ ((((!bz12) && bz13) = true → ((!bz12) && bz13) = true) ∧ ((((!bz12) && bz13) = true → (0 < (List.length (ge e0 (Int.toNat x2))) ∧ V.isInt Go.IntKind.i64 (gv (ge e0 (Int.toNat x2)) 0) = true)) ∧ (let iz14 : Int := (V.num (gv (ge e0 (Int.toNat x2)) 0));
 ((((!bz12) && bz13) = true → ((!bz12) && bz13) = true) ∧ (let iz15 : Int := (Go.IntKind.wrap Go.IntKind.i64 (x2 - (1 : Int)));
 ((((!bz12) && bz13) = true → ((!bz12) && bz13) = true) ∧ ((((!bz12) && bz13) = true → ((!bz12) && bz13) = true) ∧ ((((!bz12) && bz13) = true → (0 ≤ iz15 ∧ iz15 < (List.length e0))) ∧ ((((!bz12) && bz13) = true → ((!bz12) && bz13) = true) ∧ ((((!bz12) && bz13) = true → ((!bz12) && bz13) = true) ∧ ((((!bz12) && bz13) = true → (0 < (List.length (ge e0 (Int.toNat iz15))) ∧ V.isInt Go.IntKind.i64 (gv (ge e0 (Int.toNat iz15)) 0) = true)) ∧ (let iz16 : Int := (V.num (gv (ge e0 (Int.toNat iz15)) 0));
 ((((!bz12) && bz13) = true → ((!bz12) && bz13) = true) ∧ ((((!bz12) && bz13) = true → ((!bz12) && bz13) = true) ∧ (((!bz12) = true → (!bz12) = true) ∧ (((!bz12) = true → ((bz13 = true → ((!bz12) && bz13) = true) ∧ True)) ∧ (let bz17 : Bool := (cond bz13 (decide (iz14 ≤ iz16)) false);
 (((bz12 = false → (!bz12) = true) ∧ True) ∧ (brW (cond bz12 true bz17)
 (Q Ex.ret ⟨[V.undef, V.undef, (V.bool false), V.undef, V.undef, V.undef, V.undef, V.undef, V.undef, V.undef, V.undef, V.undef, V.undef, V.undef, V.undef, V.undef, V.undef, V.undef, V.undef, V.undef, V.undef, V.undef, V.undef, V.undef, V.undef, V.undef, V.undef, V.undef, V.undef, V.undef, V.undef, V.undef, V.undef, V.undef, V.undef, V.undef, V.undef, V.undef, V.undef, V.undef, V.undef, V.undef, V.undef, V.undef, V.undef, V.undef, V.undef, V.undef, V.undef, V.undef, V.undef, V.undef, V.undef, V.undef, V.undef, V.undef, V.undef, V.undef, V.undef, V.undef, V.undef, V.undef, V.undef, V.undef, V.undef], []⟩ h)
 (let iz18 : Int := (Go.IntKind.wrap Go.IntKind.i64 (x2 + (1 : Int)));
 (Q Ex.normal ⟨[(V.sl 2 e0 g1), V.undef, V.undef, (V.int Go.IntKind.i64 iz18), V.undef, V.undef, V.undef, V.undef, V.undef, V.undef, V.undef, V.undef, V.undef, V.undef, V.undef, V.undef, V.undef, V.undef, V.undef, V.undef, V.undef, V.undef, V.undef, V.undef, V.undef, V.undef, V.undef, V.undef, V.undef, V.undef, V.undef, V.undef, V.undef, V.undef, V.undef, V.undef, V.undef, V.undef, V.undef, V.undef, V.undef, V.undef, V.undef, V.undef, V.undef, V.undef, V.undef, V.undef, V.undef, V.undef, V.undef, V.undef, V.undef, V.undef, V.undef, V.undef, V.undef, V.undef, V.undef, V.undef, V.undef, V.undef, V.undef, V.undef, V.undef], []⟩ h)))))))))))))))))))))))))))))))))))))))))))))))))))))
 (Q (Ex.exit 0) ⟨[(V.sl 2 e0 g1), V.undef, V.undef, (V.int Go.IntKind.i64 x2), V.undef, V.undef, V.undef, V.undef, V.undef, V.undef, V.undef, V.undef, V.undef, V.undef, V.undef, V.undef, V.undef, V.undef, V.undef, V.undef, V.undef, V.undef, (V.bool bz5), V.undef, V.undef, V.undef, V.undef, V.undef, V.undef, V.undef, V.undef, V.undef, V.undef, V.undef, V.undef, V.undef, V.undef, V.undef, V.undef, V.undef, V.undef, V.undef, V.undef, V.undef, V.undef, V.undef, V.undef, V.undef, V.undef, V.undef, V.undef, V.undef, V.undef, V.undef, V.undef, V.undef, V.undef, V.undef, V.undef, V.undef, V.undef, V.undef, V.undef, V.undef, V.undef], []⟩ h))) := wpA_at f76_n110100_plug (by kernel_rfl)
theorem f76_n111_plug : f76_n111 = (codeAt [1, 1, 1] f76_b) := by
  simp only [f76_n111, hide_eq]
  try kernel_rfl
theorem f76_n111_wp (e0 : List (List V)) (g1 : G) (x2 : Int) (b3 : Bool) (h : Heap) (Q : Ex → Fr → Heap → Prop) : wpA Try.prog f76_cf f76_n111 ⟨[(V.sl 2 e0 g1), V.undef, V.undef, (V.int Go.IntKind.i64 x2), V.undef, V.undef, V.undef, V.undef, V.undef, V.undef, V.undef, V.undef, V.undef, V.undef, V.undef, V.undef, V.undef, V.undef, V.undef, V.undef, V.undef, V.undef, (V.bool b3), V.undef, V.undef, V.undef, V.undef, V.undef, V.undef, V.undef, V.undef, V.undef, V.undef, V.undef, V.undef, V.undef, V.undef, V.undef, V.undef, V.undef, V.undef, V.undef, V.undef, V.undef, V.undef, V.undef, V.undef, V.undef, V.undef, V.undef, V.undef, V.undef, V.undef, V.undef, V.undef, V.undef, V.undef, V.undef, V.undef, V.undef, V.undef, V.undef, V.undef, V.undef, V.undef], []⟩ h Q =
 (Q Ex.ret ⟨[V.undef, V.undef, (V.bool true), V.undef, V.undef, V.undef, V.undef, V.undef, V.undef, V.undef, V.undef, V.undef, V.undef, V.undef, V.undef, V.undef, V.undef, V.undef, V.undef, V.undef, V.undef, V.undef, V.undef, V.undef, V.undef, V.undef, V.undef, V.undef, V.undef, V.undef, V.undef, V.undef, V.undef, V.undef, V.undef, V.undef, V.undef, V.undef, V.undef, V.undef, V.undef, V.undef, V.undef, V.undef, V.undef, V.undef, V.undef, V.undef, V.undef, V.undef, V.undef, V.undef, V.undef, V.undef, V.undef, V.undef, V.undef, V.undef, V.undef, V.undef, V.undef, V.undef, V.undef, V.undef, V.undef], []⟩ h) := wpA_at f76_n111_plug (by kernel_rfl)
theorem f76_end1 (b0 : Bool) (h : Heap) (K : V → Heap → Prop) : bodyK Try.prog Try.f76 K Ex.ret ⟨[V.undef, V.undef, (V.bool b0), V.undef, V.undef, V.undef, V.undef, V.undef, V.undef, V.undef, V.undef, V.undef, V.undef, V.undef, V.undef, V.undef, V.undef, V.undef, V.undef, V.undef, V.undef, V.undef, V.undef, V.undef, V.undef, V.undef, V.undef, V.undef, V.undef, V.undef, V.undef, V.undef, V.undef, V.undef, V.undef, V.undef, V.undef, V.undef, V.undef, V.undef, V.undef, V.undef, V.undef, V.undef, V.undef, V.undef, V.undef, V.undef, V.undef, V.undef, V.undef, V.undef, V.undef, V.undef, V.undef, V.undef, V.undef, V.undef, V.undef, V.undef, V.undef, V.undef, V.undef, V.undef, V.undef], []⟩ h = (K (V.bool b0) h) := by kernel_rfl
end
