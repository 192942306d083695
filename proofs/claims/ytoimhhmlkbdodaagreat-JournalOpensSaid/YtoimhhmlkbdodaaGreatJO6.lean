/- Proved here: of JO6, that what the Go functions of this part compute is as their contracts say (texts Se), for every input; no condition beyond those that each theorem states. -/
import Derived.Test.YtoimhhmlkbdodaaGreatJO4
import Derived.Test.YtoimhhmlkbdodaaGreatJO5
set_option linter.all false
section
/- Ways to step. -/
namespace Js
open Go Jb
variable {P : Program} {h : Heap}
theorem RdC.i {l off : Nat} {k : V → Prop} {cs : List V} {v : V} (e : h l = some (.cells cs)) (e2 : cs[off]? = some v) (r : Nx (k v)) : RdC h l off k := ⟨cs, v, e, e2, r⟩
theorem RdV.i {cs : List V} {off : Nat} {k : V → Prop} {v : V} (e : cs[off]? = some v) (r : Nx (k v)) : RdV cs off k := ⟨v, e, r⟩
theorem RdH.i {l : Nat} {k : List V → Prop} {cs : List V} (e : h l = some (.cells cs)) (r : Nx (k cs)) : RdH h l k := ⟨cs, e, r⟩
theorem RdE.i {l : List (List V)} {n : Int} {k : List V → Prop} {i : Nat} {row : List V} (e : n = (i : Int)) (e2 : l[i]? = some row) (r : Nx (k row)) : RdE l n k := ⟨i, row, e, e2, r⟩
theorem RdI.i {cs : List V} {n : Int} {len es : Nat} {k : V → Prop} {i : Nat} {v : V} (e : n = (i : Int)) (e2 : i < len) (e3 : cs[i * es]? = some v) (r : Nx (k v)) : RdI cs n len es k := ⟨i, v, e, e2, e3, r⟩
theorem RdM.i {m key : V} {k : Option V → Prop} {es : List (V × V)} {r : Option V} (e : mapAt h m = some es) (e2 : findV key es = some r) (q : Nx (k r)) : RdM h m key k := ⟨es, r, e, e2, q⟩
theorem Nm.i {α : Type} {x : α} {k : α → Prop} {y : α} (e : x = y) (r : Nx (k y)) : Nm x k := ⟨y, e, r⟩
theorem Wr.i {kd : IntKind} {x : Int} {k : Int → Prop} {y : Int} (e : kd.wrap x = y) (r : Nx (k y)) : Wr kd x k := ⟨y, e, r⟩
theorem MapUp.i {r : Nat} {key v : V} {k : Heap → Prop} {es es' : List (V × V)} (e : h r = some (.obj (.map es))) (e2 : updV key v es = some es') (q : Nx (k (h.upd r (.obj (.map es'))))) : MapUp h r key v k := ⟨es, es', e, e2, q⟩
theorem At.i {n : Int} {len : Nat} {k : Nat → Prop} {i : Nat} (e : n = (i : Int)) (e2 : i < len) (r : Nx (k i)) : At n len k := ⟨i, e, e2, r⟩
theorem New.i {o : Ob} {k : Nat → Heap → Prop} (r : ∀ l, h l = none → Nx (k l (h.upd l o))) : New h o k := ⟨r⟩
theorem Up.i {l : Nat} {o : Ob} {k : Heap → Prop} {h' : Heap} (e : h.upd l o = h') (r : Nx (k h')) : Up h l o k := ⟨h', e, r⟩
theorem ToS.i {l : List (List V)} {k : ByteArray → Prop} {s : ByteArray} (e : l.all isByte = true) (e2 : textOf l = s) (r : Nx (k s)) : ToS l k := ⟨s, e, e2, r⟩
theorem Part.i {α : Type} {f : Nat → Nat → α} {a b : Int} {n : Nat} {k : Nat → Nat → α → Prop} {i j : Nat} {y : α} (e1 : a = (i : Int)) (e2 : b = (j : Int)) (l1 : i ≤ j) (l2 : j ≤ n) (e3 : f i j = y) (r : Nx (k i j y)) : Part f a b n k := ⟨i, j, y, e1, e2, l1, l2, e3, r⟩
theorem Plan.i {ops : List Oper} {esc : List Nat} {k : List (Nat × List Nat) → Prop} (e1 : zerosOk P ops = true) (e : (regPlan esc ops).isSome = true) (r : Nx (k (planS esc ops))) : Plan P ops esc k := by
  refine ⟨planS esc ops, e1, ?_, r⟩
  unfold regPlan at e ⊢
  simp only at e ⊢
  split
  · rfl
  · rename_i h; simp only [h] at e; cases e
theorem brS_i {b : Bool} {T E : Prop} (t : b = true → Nx T) (e : b = false → Nx E) : brS b T E := ⟨t, e⟩
theorem spB_i {b : Bool} {K : Bool → Prop} (t : b = true → Nx (K true)) (e : b = false → Nx (K false)) : spB b K := ⟨t, e⟩
theorem wrS_all : ∀ {cs : List V} {off : Nat} {new : List V} {k : List V → Prop}, off + new.length ≤ cs.length → k (wrCells cs off new) → wrS cs off new k
  | cs, 0, [], k, _, e => by simpa [wrS, wrCells] using e
  | [], 0, _ :: _, k, h, _ => by simp at h
  | a :: r, 0, v :: new, k, h, e => by
    simp only [wrS]
    refine wrS_all (by simp at h ⊢; omega) ?_
    simpa [wrCells] using e
  | [], _ + 1, _, k, h, _ => by simp at h
  | a :: r, n + 1, new, k, h, e => by
    simp only [wrS]
    refine wrS_all (by simp at h; omega) ?_
    have : n + 1 + new.length = n + new.length + 1 := by omega
    simpa [wrCells, this] using e
theorem wrS_i {cs : List V} {off : Nat} {new cs' : List V} {k : List V → Prop} (h : off + new.length ≤ cs.length) (e : wrCells cs off new = cs') (r : Nx (k cs')) : wrS cs off new k := wrS_all h (by rw [e]; exact r.out)
theorem fVs_i {x y : List V} {k : List V → Prop} (e : x = y) (r : Nx (k y)) : fVs x k := (fVs_iff _ _).2 (by rw [e]; exact r.out)
theorem wr_set {cs : List V} {off : Nat} {v : V} (h : off < cs.length) : wrCells cs off [v] = cs.set off v := by
  simp only [wrCells, List.set_eq_take_append_cons_drop, h, if_true, List.length_singleton, List.append_assoc, List.singleton_append]
theorem hp_same (h : Heap) (l : Nat) (o : Ob) : (h.upd l o) l = some o := by simp
theorem hp_new {l x : Nat} {o v : Ob} (hn : h l = none) (e : h x = some v) : (h.upd l o) x = some v := by
  have : x ≠ l := by rintro rfl; rw [hn] at e; cases e
  rw [upd_ne h o this]; exact e
theorem hp_ne {l x : Nat} {o v : Ob} (hne : x ≠ l) (e : h x = some v) : (h.upd l o) x = some v := by rw [upd_ne h o hne]; exact e
theorem ne_fresh {h : Heap} {l x : Nat} {v : Ob} (hn : h l = none) (e : h x = some v) : x ≠ l := by rintro rfl; rw [hn] at e; cases e
structure Has (h : Heap) (x : Nat) : Prop where
  out : h x ≠ none
theorem has_of {x : Nat} {v : Ob} (e : h x = some v) : Has h x := ⟨by rw [e]; simp⟩
theorem has_upd {x l : Nat} {o : Ob} (e : Has h x) : Has (h.upd l o) x := ⟨by
  simp only [Heap.upd]
  split
  · simp
  · exact e.out⟩
theorem ne_has {l x : Nat} (hn : h l = none) (e : Has h x) : x ≠ l := by rintro rfl; exact e.out hn
theorem up_by {l x : Nat} {a b : Ob} {h' : Heap} (hne : l ≠ x) (e : h.upd l b = h') : (h.upd x a).upd l b = h'.upd x a := by
  subst e; funext y; simp only [Heap.upd]; split <;> split <;> first | rfl | (subst_vars; exact (hne rfl).elim)
theorem wrap_i64 {x : Int} (a : -9223372036854775808 ≤ x) (b : x ≤ 9223372036854775807) : IntKind.i64.wrap x = x := by rw [Go.IntWalk.i64_in] <;> omega
theorem wrap_i64z {x : Int} (a : -9223372036854775808 ≤ x) (b : x ≤ 9223372036854775807) : IntKind.i64.wrap (0 + x) = x := by rw [Int.zero_add]; exact wrap_i64 a b
theorem wrap_u64 {x : Int} (a : 0 ≤ x) (b : x ≤ 18446744073709551615) : IntKind.u64.wrap x = x := by simp [IntKind.wrap, IntKind.signed, IntKind.bits]; omega
theorem wrap_u32 {x : Int} (a : 0 ≤ x) (b : x ≤ 4294967295) : IntKind.u32.wrap x = x := by simp [IntKind.wrap, IntKind.signed, IntKind.bits]; omega
theorem wrap_u8 {x : Int} (a : 0 ≤ x) (b : x ≤ 255) : IntKind.u8.wrap x = x := by simp [IntKind.wrap, IntKind.signed, IntKind.bits]; omega

def frm (n : Nat) : List (Nat × V) → List V
  | [] => List.replicate n .undef
  | (i, v) :: r => (frm n r).set i v

theorem loopS {B : Fr → Heap → (Ex → Fr → Heap → Prop) → Prop} {Q : Ex → Fr → Heap → Prop} {fr : Fr} {σ : Type} (mk : σ → List V) (lc : σ → List (Nat × List V)) (m : σ → Nat) (Inv : σ → Heap → Prop) (s : σ) (e1 : fr = ⟨mk s, lc s⟩) (hI : Inv s h)
    (round : ∀ s h, Inv s h → Nx (fVs (mk s) fun tm => B ⟨tm, lc s⟩ h (seqK (fun f h' => Fin (∃ s', f = ⟨mk s', lc s'⟩ ∧ Inv s' h' ∧ m s' < m s)) Q))) : LoopI B Q fr h := by
  subst e1
  induction hk : m s using Nat.strongRecOn generalizing s h with
  | _ k ih =>
    refine .mk _ _ (fun f h' => Fin (∃ s', f = ⟨mk s', lc s'⟩ ∧ Inv s' h' ∧ m s' < m s)) ((fVs_iff _ _).1 (round s h hI).out) ?_
    rintro f h' ⟨s', rfl, hI', hlt⟩
    exact ih (m s') (by omega) s' hI' rfl

structure HN (h : Heap) (k : Heap → Prop) : Prop where
  out : ∃ h', h = h' ∧ Nx (k h')
theorem HN.i {k : Heap → Prop} {h' : Heap} (e : h = h') (r : Nx (k h')) : HN h k := ⟨h', e, r⟩
structure RdL (h : Heap) (l : Nat) (k : LSt → List Nat → List V → Code → Code → Prop) : Prop where
  out : ∃ st ps tm asg body, h l = some (.obj (.loop st ps tm asg body)) ∧ Nx (k st ps tm asg body)
theorem RdL.i {l : Nat} {k : LSt → List Nat → List V → Code → Code → Prop} {st : LSt} {ps : List Nat} {tm : List V} {asg body : Code} (e : h l = some (.obj (.loop st ps tm asg body))) (r : Nx (k st ps tm asg body)) : RdL h l k := ⟨st, ps, tm, asg, body, e, r⟩

def rendS (l : Nat) (K : V → Heap → Prop) (e : Ex) (_ : Fr) (h : Heap) : Prop :=
  RdL h l fun _ ps tm asg body => (match e with
    | .normal => HN (h.upd l (.obj (.loop .ready ps tm asg body))) fun h => Fin (K (.bool true) h)
    | .exit i => HN (h.upd l (.obj (.loop (.done (.exit i)) ps tm asg body))) fun h => Fin (K (.bool false) h)
    | .goto i => HN (h.upd l (.obj (.loop (.done (.goto i)) ps tm asg body))) fun h => Fin (K (.bool false) h)
    | .ret => HN (h.upd l (.obj (.loop (.done .ret) ps tm asg body))) fun h => Fin (K (.bool false) h))

theorem rendS_sound {l : Nat} {K : V → Heap → Prop} {e : Ex} {fr : Fr} (q : rendS l K e fr h) : roundK l K e fr h := by
  obtain ⟨st, ps, tm, asg, body, hl, ⟨q⟩⟩ := q
  unfold roundK
  rw [hl]
  cases e <;> (obtain ⟨_, rfl, ⟨q⟩⟩ := q; exact q.out)

theorem YieldS.go (hmix : P.follows .mixedOrders = true) (cg : Cg) (hr0 : cg.rnd = true) {l : Nat} {args : List V} {K : V → Heap → Prop} {ps : List Nat} {tm : List V} {asg body : Code} (hl : h l = some (.obj (.loop .ready ps tm asg body))) (hlen : ps.length = args.length)
    (e : Nx (fVs (setTm ps args tm) fun tm => wpS P cg asg ⟨tm, []⟩ h fun e fr h1 => (match e with
      | .normal => RdL h1 l fun st ps' tm' asg' body' => (match st with
        | .ready => HN (h1.upd l (.obj (.loop .busy ps' tm' asg' body'))) fun h2 => wpS P cg body fr h2 (rendS l K)
        | _ => False)
      | _ => False))) : YieldS P l args h K := by
  refine ⟨YieldW.round hmix cg.cfg ?_ hr0⟩
  unfold roundW
  simp only [hl]
  refine ⟨hlen, ?_⟩
  refine wpA_mono asg (fun e fr h1 q => ?_) (wpS_sound ((fVs_iff _ _).1 e.out))
  cases e with
  | normal =>
    obtain ⟨st, ps', tm', asg', body', hl, ⟨q⟩⟩ := q
    simp only [hl]
    cases st with
    | ready =>
      obtain ⟨h2, rfl, ⟨q⟩⟩ := q
      exact wpA_mono body (fun _ _ _ q => rendS_sound q) (wpS_sound q)
    | busy => exact q.elim
    | done _ => exact q.elim
  | _ => exact q.elim

theorem RangeS.i {rnd : Bool} {k : FuncId} {first caps : List V} {ps : Array Tmp} {asg body : Code} {fr : Fr} {Q : Ex → Fr → Heap → Prop} (hr : rnd = false) (he : enters P k = true)
    (c : ∀ l, h l = none → ∀ h1, h1 = h.upd l (.obj (.loop .ready ps.toList (fr.tm.map noLp) asg body)) → CallW P k (first ++ [.fn (.yield l) [] []] ++ caps) h1 fun _ h' => loopEnd h' l fun e h'' => Nx (Q e fr h'')) : RangeS P rnd (.fn (.func k) first caps) ps asg body fr h Q := by
  subst hr
  refine ⟨he, fun l hl => ?_⟩
  refine CallW.mono (c l hl _ rfl) fun r h' q => ?_
  exact loopEnd_mono (fun e h'' q => q.out) q

theorem CallW.forget {f : FuncId} {args : List V} {K K2 : V → Heap → Prop} (c : CallW P f args h K) (m : ∀ r h', K r h' → ∃ h2 : Heap, h2.Sub h' ∧ K2 r h2) : CallW P f args h K2 := by
  intro S w xs H R
  refine (c S w xs H R).mono fun e w' ⟨r, x, h', S', e, k, H', R', L⟩ => ?_
  obtain ⟨h2, hs, k2⟩ := m r h' k
  refine ⟨r, x, h2, S', e, k2, ⟨fun l o ho => H'.obs l o (hs l o ho), H'.fresh⟩, R', { L with dom := fun l hl hb => L.dom l hl ?_, all := fun l hl hn => ?_ }⟩
  · obtain ⟨o, ho, hb⟩ := hb
    exact ⟨o, hs l o ho, hb⟩
  · have := L.all l hl hn
    cases h2l : h2 l with
    | none => rfl
    | some o => rw [hs l o h2l] at this; cases this

inductive Weak : V → V → Prop where
  | rfl (v : V) : Weak v v
  | sl (es : Nat) (l : List (List V)) (g : G) : Weak (.sl es l g) (.sl es l .no)
  | tup (vs us : List V) (hl : vs.length = us.length) (h : ∀ (i : Nat) (v u : V), vs[i]? = some v → us[i]? = some u → Weak v u) : Weak (.tup vs) (.tup us)
  | agg (vs us : List V) (hl : vs.length = us.length) (h : ∀ (i : Nat) (v u : V), vs[i]? = some v → us[i]? = some u → Weak v u) : Weak (.agg vs) (.agg us)
def WeakL (vs us : List V) : Prop := vs.length = us.length ∧ ∀ (i : Nat) (v u : V), vs[i]? = some v → us[i]? = some u → Weak v u
theorem WeakL.nil : WeakL [] [] := ⟨rfl, fun i v u e => by simp at e⟩
theorem WeakL.cons {v u : V} {vs us : List V} (h : Weak v u) (t : WeakL vs us) : WeakL (v :: vs) (u :: us) := by
  refine ⟨by simp [t.1], fun i a b ha hb => ?_⟩
  cases i with
  | zero => simp at ha hb; subst ha; subst hb; exact h
  | succ i => simp at ha hb; exact t.2 i a b ha hb
theorem Weak.tupL {vs us : List V} (h : WeakL vs us) : Weak (.tup vs) (.tup us) := .tup vs us h.1 h.2
theorem Weak.aggL {vs us : List V} (h : WeakL vs us) : Weak (.agg vs) (.agg us) := .agg vs us h.1 h.2
theorem Rel.weak {S : Sim} {w : World} {v u : V} (k : Weak v u) : ∀ {x : Value}, Rel S w v x → Rel S w u x := by
  induction k with
  | rfl v => exact fun h => h
  | sl es l g =>
    intro x h
    cases h with
    | slnil es g hg b => exact .slnil es _ (by simp) b
    | sl es l g rb o cap xs hes hcap hg hlen hk hr => exact .sl es l _ rb o cap xs hes hcap trivial hlen hk hr
  | tup vs us hl h ih =>
    intro x hx
    cases hx with
    | tup _ xs hl' hr =>
      refine .tup us xs (by omega) fun i u x hu hx => ?_
      obtain ⟨hi, _⟩ := List.getElem?_eq_some_iff.1 hu
      exact ih i vs[i] u (List.getElem?_eq_getElem (by omega)) hu (hr i _ x (List.getElem?_eq_getElem (by omega)) hx)
  | agg vs us hl h ih =>
    intro x hx
    cases hx with
    | agg _ xs hl' ho hr =>
      refine .agg us xs (by omega) ho fun i u x hu hx => ?_
      obtain ⟨hi, _⟩ := List.getElem?_eq_some_iff.1 hu
      exact ih i vs[i] u (List.getElem?_eq_getElem (by omega)) hu (hr i _ x (List.getElem?_eq_getElem (by omega)) hx)
theorem CallW.weak {f : FuncId} {args : List V} {K K2 : V → Heap → Prop} (c : CallW P f args h K) (m : ∀ r h', K r h' → ∃ u h2, Weak r u ∧ Heap.Sub h2 h' ∧ K2 u h2) : CallW P f args h K2 := by
  have c := CallW.forget (K2 := fun r h2 => ∃ u, Weak r u ∧ K2 u h2) c fun r h' k => by
    obtain ⟨u, h2, hw, hs, k2⟩ := m r h' k
    exact ⟨h2, hs, u, hw, k2⟩
  intro S w xs H R
  refine (c S w xs H R).mono fun e w' ⟨r, x, h', S', e, ⟨u, hw, k⟩, H', R', L⟩ => ?_
  exact ⟨u, x, h', S', e, k, H', Rel.weak hw R', L⟩

theorem sub_new {h' : Heap} {l : Nat} {o : Ob} (hn : h l = none) (s : h.Sub h') : h.Sub (h'.upd l o) := Heap.sub_new hn s
theorem sub_same {h' : Heap} {l : Nat} {o : Ob} (s : h.Sub h') : (h.upd l o).Sub (h'.upd l o) := fun x o' e => by
  simp only [Heap.upd] at e ⊢
  split
  · rename_i q; rw [if_pos q] at e; exact e
  · rename_i q; rw [if_neg q] at e; exact s x o' e

def gr (h : Heap) (g : G) (es n : Nat) : Heap := match g with | .own s => h.upd s (.grow es n) | _ => h
structure GNew (es n : Nat) (h : Heap) (g g' : G) : Prop where
  can : Can g es n h
  own : ∀ s, g = .own s → g' = .own s
  new : g = .full → ∀ s, g' = .own s → h s = none
  yes : g' ≠ .no
theorem App.i {es n m : Nat} {g : G} {k : G → Heap → Prop} (c : Can g es n h) (r : ∀ g', GNew es n h g g' → Nx (k g' (gr h g' es (n + m)))) : App es n m g h k := by
  refine ⟨?_⟩
  rcases c with rfl | ⟨s, rfl, hs⟩
  · cases m with
    | zero => exact r .full ⟨.inl rfl, by simp, by simp, by simp⟩
    | succ m => exact fun s hs => r (.own s) ⟨.inl rfl, by simp, fun _ t e => (by cases e; exact hs), by simp⟩
  · exact ⟨hs, r (.own s) ⟨.inr ⟨s, rfl, hs⟩, by simp, by simp, by simp⟩⟩
theorem hp_gr {es n n' x : Nat} {g g' : G} {v : Ob} (hg : GNew es n h g g') (hb : v.blk = true) (e : h x = some v) : (gr h g' es n') x = some v := by
  unfold gr
  split
  · rename_i s
    have : x ≠ s := by
      rintro rfl
      rcases hg.can with rfl | ⟨t, rfl, ht⟩
      · rw [hg.new rfl x rfl] at e; cases e
      · have := hg.own t rfl
        cases this
        rw [ht] at e; cases e
        cases hb
    rw [upd_ne h _ this]; exact e
  · exact e
theorem can_gr {es n n' : Nat} {g g' : G} (hg : GNew es n h g g') : Can g' es n' (gr h g' es n') := by
  unfold gr
  cases g' with
  | full => exact .inl rfl
  | own s => exact .inr ⟨s, rfl, by simp⟩
  | no => exact (hg.yes rfl).elim
theorem can_new {es n l : Nat} {g : G} {o : Ob} (hn : h l = none) (c : Can g es n h) : Can g es n (h.upd l o) := by
  rcases c with rfl | ⟨s, rfl, hs⟩
  · exact .inl rfl
  · exact .inr ⟨s, rfl, hp_new hn hs⟩
theorem can_cells {es n l : Nat} {g : G} {o : Ob} {cs : List V} (hn : h l = some (.cells cs)) (c : Can g es n h) : Can g es n (h.upd l o) := by
  rcases c with rfl | ⟨s, rfl, hs⟩
  · exact .inl rfl
  · exact .inr ⟨s, rfl, hp_ne (by rintro rfl; rw [hn] at hs; cases hs) hs⟩
theorem gr_gr (h : Heap) (g : G) (es n n' : Nat) : gr (gr h g es n) g es n' = gr h g es n' := by
  unfold gr; cases g <;> simp
theorem sub_gr {h' : Heap} {es n n' : Nat} {g g' : G} (hg : GNew es n h' g g') (hn : ∀ s, g' = .own s → h s = none) (s : h.Sub h') : h.Sub (gr h' g' es n') := by
  unfold gr
  split
  · rename_i t; exact sub_new (hn t rfl) s
  · exact s
theorem sub_gr0 {h' : Heap} {es n n' : Nat} {g' : G} (hg : GNew es n h' .full g') (s : h.Sub h') : h.Sub (gr h' g' es n') :=
  sub_gr hg (fun t e => by
    cases ht : h t with
    | none => rfl
    | some o => have := s t o ht; rw [hg.new rfl t e] at this; cases this) s
theorem GNew.step {es n k m : Nat} {h : Heap} {g g' : G} (a : GNew es k h .full g) (c : GNew es n (gr h g es n) g g') : GNew es k h .full g' ∧ gr (gr h g es n) g' es m = gr h g' es m := by
  cases g with
  | full => exact ⟨⟨.inl rfl, by simp, fun _ s e => by have := c.new rfl s e; exact this, c.yes⟩, rfl⟩
  | own s =>
    have e := c.own s rfl
    subst e
    exact ⟨a, gr_gr _ _ _ _ _⟩
  | no => exact (a.yes rfl).elim

def Gives (P : Program) (f : FuncId) (args : List V) (h : Heap) (r : V) (h2 : Heap) : Prop := CallW P f args h fun r' h' => Weak r' r ∧ h2.Sub h'
theorem CallS.gives {f : FuncId} {args : List V} {r : V} {h2 : Heap} {K : V → Heap → Prop} (he : enters P f = true) (c : Gives P f args h r h2) (m : HN h2 fun h2 => K r h2) : CallS P f args h K :=
  ⟨AnyW.call he (CallW.weak c fun r' h' ⟨e, s⟩ => ⟨r, h2, e, s, by obtain ⟨h3, rfl, ⟨m⟩⟩ := m; exact m⟩)⟩
def GivesS (P : Program) (f : FuncId) (args : List V) (h : Heap) (es : Nat) (l : List (List V)) (n : Nat) : Prop := CallW P f args h fun r h' => ∃ g', GNew es 0 h .full g' ∧ r = .sl es l g' ∧ (gr h g' es n).Sub h'
theorem CallS.givesS {f : FuncId} {args : List V} {es n : Nat} {l : List (List V)} {K : V → Heap → Prop} (he : enters P f = true) (c : GivesS P f args h es l n) (m : ∀ g', GNew es 0 h .full g' → Nx (K (.sl es l g') (gr h g' es n))) : CallS P f args h K :=
  ⟨AnyW.call he (CallW.forget c fun r' h' ⟨g', hg, e, s⟩ => ⟨gr h g' es n, s, by rw [e]; exact (m g' hg).out⟩)⟩
theorem GivesS.weak {f : FuncId} {args : List V} {es n : Nat} {l : List (List V)} (c : GivesS P f args h es l n) : Gives P f args h (.sl es l .no) h :=
  CallW.mono c fun r h' ⟨g', hg, e, s⟩ => ⟨by rw [e]; exact .sl _ _ _, fun x o hx => s x o (by
    unfold gr
    split
    · rename_i t; exact hp_new (hg.new rfl t rfl) hx
    · exact hx)⟩
theorem Gives.call {f : FuncId} {args : List V} {r : V} {h2 : Heap} {K : V → Heap → Prop} (c : Gives P f args h r h2) (m : K r h2) : CallW P f args h K :=
  CallW.weak c fun r' h' ⟨e, s⟩ => ⟨r, h2, e, s, m⟩
theorem del_upd {l : Nat} {o : Ob} (hn : h l = none) : (h.upd l o).del l = h := by
  funext x
  simp only [Heap.del, Heap.upd]
  split
  · rename_i e; subst e; exact hn.symm
  · rfl
theorem loopEnd_i {l : Nat} {K : Ex → Heap → Prop} {ps : List Nat} {tm : List V} {asg body : Code} {h2 : Heap} (e : h l = some (.obj (.loop .ready ps tm asg body))) (d : h.del l = h2) (k : K .normal h2) : loopEnd h l K := by
  unfold loopEnd; rw [e, d]; exact k
theorem loopEnd_ret {l : Nat} {K : Ex → Heap → Prop} {ps : List Nat} {tm : List V} {asg body : Code} {h2 : Heap} (e : h l = some (.obj (.loop (.done .ret) ps tm asg body))) (d : h.del l = h2) (k : K .ret h2) : loopEnd h l K := by
  unfold loopEnd; rw [e, d]; exact k
theorem RangeS.via {rnd : Bool} {k : FuncId} {first caps : List V} {ps : Array Tmp} {asg body : Code} {fr : Fr} {Q : Ex → Fr → Heap → Prop} (K0 : Nat → (LSt → Ob) → Heap → Prop) (hr : rnd = false) (he : enters P k = true)
    (c : ∀ l, h l = none → CallW P k (first ++ [.fn (.yield l) [] []] ++ caps) (h.upd l (.obj (.loop .ready ps.toList (fr.tm.map noLp) asg body))) fun _ h' => K0 l (fun s => .obj (.loop s ps.toList (fr.tm.map noLp) asg body)) h')
    (m : ∀ l, h l = none → ∀ R : LSt → Ob, (R = fun s => .obj (.loop s ps.toList (fr.tm.map noLp) asg body)) → ∀ h', K0 l R h' → ∃ e h2, (∃ s, h' l = some (R s) ∧ (s = .ready ∧ e = .normal ∨ s = .done .ret ∧ e = .ret)) ∧ h'.del l = h2 ∧ Nx (Q e fr h2)) : RangeS P rnd (.fn (.func k) first caps) ps asg body fr h Q := by
  refine RangeS.i hr he fun l hl h1 e1 => ?_
  subst e1
  refine CallW.mono (c l hl) fun r h' q => ?_
  obtain ⟨e, h2, ⟨s, e1, e2⟩, e3, q⟩ := m l hl _ rfl h' q
  rcases e2 with ⟨rfl, rfl⟩ | ⟨rfl, rfl⟩
  · exact loopEnd_i e1 e3 q
  · exact loopEnd_ret e1 e3 q
theorem none_of {l x : Nat} {o : Ob} (e : (h.upd x o) l = none) : h l = none := by
  simp only [Heap.upd] at e
  split at e
  · cases e
  · exact e
theorem none_up {l x : Nat} {o : Ob} (e : h l = none) (hne : l ≠ x) : (h.upd x o) l = none := by rw [upd_ne h o hne]; exact e
theorem none_ne {l x : Nat} {o : Ob} (e : (h.upd x o) l = none) : l ≠ x := by rintro rfl; simp at e

theorem wn_add {i j : Nat} (h : i + j ≤ 9223372036854775807) : IntKind.i64.wrap ((i : Int) + (j : Int)) = ((i + j : Nat) : Int) := wrap_i64 (by omega) (by omega)
theorem wn_sub {i j : Nat} (h : j ≤ i) (h2 : i ≤ 9223372036854775807) : IntKind.i64.wrap ((i : Int) - (j : Int)) = ((i - j : Nat) : Int) := by rw [wrap_i64 (by omega) (by omega)]; omega
theorem wn_addl {i n : Nat} (h : i + (@OfNat.ofNat Nat n _) ≤ 9223372036854775807) : IntKind.i64.wrap ((i : Int) + (@OfNat.ofNat Int n _)) = ((i + (@OfNat.ofNat Nat n _) : Nat) : Int) := wn_add h
theorem wn_subl {i n : Nat} (h : (@OfNat.ofNat Nat n _) ≤ i) (h2 : i ≤ 9223372036854775807) : IntKind.i64.wrap ((i : Int) - (@OfNat.ofNat Int n _)) = ((i - (@OfNat.ofNat Nat n _) : Nat) : Int) := wn_sub h h2
theorem wu_sub {i j : Nat} (h : j ≤ i) (h2 : i ≤ 18446744073709551615) : IntKind.u64.wrap ((i : Int) - (j : Int)) = ((i - j : Nat) : Int) := by rw [wrap_u64 (by omega) (by omega)]; omega
theorem wu_subl {i n : Nat} (h : (@OfNat.ofNat Nat n _) ≤ i) (h2 : i ≤ 18446744073709551615) : IntKind.u64.wrap ((i : Int) - (@OfNat.ofNat Int n _)) = ((i - (@OfNat.ofNat Nat n _) : Nat) : Int) := wu_sub h h2
theorem cast_ofNat (n : Nat) : (@OfNat.ofNat Int n _) = ((@OfNat.ofNat Nat n _ : Nat) : Int) := rfl
theorem cast_nat {x : Int} (h : 0 ≤ x) : x = ((x.toNat : Nat) : Int) := by omega

def bs (l : List UInt8) : List (List V) := l.map fun b => [.int .u8 b.toNat]
def bat (l : List UInt8) (i : Nat) : Nat := (l.getD i 0).toNat
theorem bs_at {l : List UInt8} {i : Nat} (hi : i < l.length) : (bs l)[i]? = some [.int .u8 (bat l i)] := by simp [bs, bat, hi]
theorem bs_len (l : List UInt8) : (bs l).length = l.length := by simp [bs]
theorem bs_part (l : List UInt8) (i j : Nat) : ((bs l).take j).drop i = bs ((l.take j).drop i) := by simp [bs, List.map_drop, List.map_take]
theorem bs_to (l : List UInt8) (i : Nat) : ((bs l).take l.length).drop i = bs (l.drop i) := by rw [← bs_len l, List.take_length]; simp [bs, List.map_drop]
theorem bs_app (l m : List UInt8) : bs l ++ bs m = bs (l ++ m) := by simp [bs]
theorem bs_byte (l : List UInt8) : (bs l).all isByte = true := by simp [bs, isByte, kindEq]
def tx (l : List UInt8) : ByteArray := ⟨l.toArray⟩
theorem bs_tx (l : List UInt8) : textOf (bs l) = tx l := by
  unfold textOf tx
  congr 1
  congr 1
  unfold bs
  rw [List.map_map]
  conv => rhs; rw [← List.map_id l]
  refine List.map_congr_left fun b _ => ?_
  simp [Jb.byteOf, V.num]
theorem tx_bs (l : List UInt8) : bytesOf (tx l) = bs l := by simp [bytesOf, tx, bs]
theorem tx_size (l : List UInt8) : (tx l).size = l.length := rfl
end Js
end
